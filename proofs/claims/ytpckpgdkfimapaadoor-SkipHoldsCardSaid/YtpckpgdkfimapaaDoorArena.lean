/- An arena of cells, told plainly: which cells are taken and what they have; what each call does to it. -/
import Derived.Test.YtpckpgdkfimapaaDoorCellsNew
namespace Go.Proofs.YtpckpgdkfimapaaDoor
open Go Go.RowKit
set_option linter.unusedVariables false

/-- An arena: its size, what each taken cell has, how many steps there were. -/
structure Ar where
  size : Nat
  get : Nat → Option Int
  steps : Int

/-- How many of the first n are taken. -/
def cnt (get : Nat → Option Int) : Nat → Nat
  | 0 => 0
  | n + 1 => cnt get n + (if (get n).isSome then 1 else 0)

theorem cnt_le (get : Nat → Option Int) (n : Nat) : cnt get n ≤ n := by
  induction n with
  | zero => exact Nat.le_refl _
  | succ n ih => unfold cnt; split <;> omega

theorem cnt_full (get : Nat → Option Int) (n : Nat) : cnt get n = n ↔ ∀ c, c < n → (get c).isSome = true := by
  induction n with
  | zero => simp [cnt]
  | succ n ih =>
    have := cnt_le get n
    unfold cnt
    by_cases h : (get n).isSome = true
    · rw [if_pos h]
      constructor
      · intro e c hc
        by_cases hcn : c = n
        · subst hcn; exact h
        · exact (ih.1 (by omega)) c (by omega)
      · intro e
        have := ih.2 fun c hc => e c (by omega)
        omega
    · rw [if_neg h]
      constructor
      · intro e; omega
      · intro e; exact absurd (e n (by omega)) h

theorem cnt_congr (g g' : Nat → Option Int) (n : Nat) (h : ∀ c, c < n → (g c).isSome = (g' c).isSome) : cnt g n = cnt g' n := by
  induction n with
  | zero => rfl
  | succ n ih =>
    unfold cnt
    rw [ih fun c hc => h c (by omega), h n (by omega)]

theorem cnt_set (g : Nat → Option Int) (c : Nat) (v : Int) (n : Nat) (hc : c < n) (hg : g c = none) : cnt (fun d => if d = c then some v else g d) n = cnt g n + 1 := by
  induction n with
  | zero => omega
  | succ n ih =>
    unfold cnt
    by_cases e : c = n
    · subst e
      rw [cnt_congr _ g c (by intro d hd; rw [if_neg (by omega)])]
      simp [hg]
    · rw [ih (by omega), if_neg (c := n = c) (by omega)]
      omega

theorem cnt_free (g : Nat → Option Int) (c : Nat) (n : Nat) (hc : c < n) (hg : (g c).isSome = true) : cnt (fun d => if d = c then none else g d) n + 1 = cnt g n := by
  induction n with
  | zero => omega
  | succ n ih =>
    unfold cnt
    by_cases e : c = n
    · subst e
      rw [cnt_congr _ g c (by intro d hd; rw [if_neg (by omega)])]
      simp [hg]
    · have := ih (by omega)
      rw [if_neg (c := n = c) (by omega)]
      omega

/-- What an arena's own words must say of it. -/
structure ArInv (S : Ar) (hs : List Int) (ws : Nat → Nat) (low used : Nat) : Prop where
  one : 1 ≤ S.size
  max : S.size ≤ 65536
  cap : hs.length ≤ S.size
  get : ∀ c : Nat, S.get c = if (ws (c / 64)).testBit (c % 64) then some (hs.getD c 0) else none
  supp : ∀ c : Nat, (ws (c / 64)).testBit (c % 64) = true → c < hs.length
  many : used = cnt S.get S.size
  lows : ∀ i, i < low → ws i = 18446744073709551615
  lowm : low ≤ 1024

/-- An arena lies at block b; fp: the blocks that are its own. -/
def ArenaAt (w : World) (b : Nat) (fp : List Nat) (S : Ar) : Prop :=
  ∃ hv hs ws, ∃ low used : Nat, ArRep w b hv S.size hs ws low used S.steps ∧ fp = b :: rowsOf hv ∧ ArInv S hs ws low used

theorem ArenaAt.taken {S : Ar} {hs : List Int} {ws : Nat → Nat} {low used : Nat} (h : ArInv S hs ws low used) (c : Int) : takenAt hs ws c = (decide (0 ≤ c) && (S.get c.toNat).isSome) := by
  unfold takenAt
  rw [h.get c.toNat]
  by_cases h0 : 0 ≤ c
  · cases ht : (ws (c.toNat / 64)).testBit (c.toNat % 64)
    · simp
    · have := h.supp _ ht
      simp [h0]; omega
  · simp [h0]

theorem ArenaAt.getD {S : Ar} {hs : List Int} {ws : Nat → Nat} {low used : Nat} (h : ArInv S hs ws low used) {k : Nat} {v : Int} (hg : S.get k = some v) : hs.getD k 0 = v ∧ k < hs.length := by
  rw [h.get k] at hg
  split at hg
  · rename_i ht
    exact ⟨by simpa using hg, h.supp _ ht⟩
  · cases hg

theorem ArenaAt.kept {own : List Nat} {w w' : World} {b : Nat} {fp : List Nat} {S : Ar} (h : ArenaAt w b fp S) (k : Kept own w w') (hn : ∀ x ∈ fp, x ∉ own) : ArenaAt w' b fp S := by
  obtain ⟨hv, hs, ws, low, used, hr, rfl, hi⟩ := h
  exact ⟨hv, hs, ws, low, used, ⟨k.blk hr.blk (hn b (by simp)), k.row hr.row (fun j hj => hn j (List.mem_cons_of_mem _ (mem_rowsOf.2 hj))), hr.ne, hr.word, hr.few⟩, rfl, hi⟩

theorem ArenaAt.fp_lt {w : World} {b : Nat} {fp : List Nat} {S : Ar} (h : ArenaAt w b fp S) : ∀ x ∈ fp, x < w.heap.size := by
  obtain ⟨hv, hs, ws, low, used, hr, rfl, hi⟩ := h
  intro x hx
  simp only [List.mem_cons] at hx
  rcases hx with rfl | hx
  · exact hr.blk.lt
  · exact (hr.row.lt x (mem_rowsOf.1 hx)).2

theorem ArenaAt.self {w : World} {b : Nat} {fp : List Nat} {S : Ar} (h : ArenaAt w b fp S) : b ∈ fp := by
  obtain ⟨hv, hs, ws, low, used, hr, rfl, hi⟩ := h
  simp

/-- What a call does that works on an arena alone: the arena is S' behind it, its blocks are those that it had, or new ones. -/
structure ArOp (w w' : World) (b : Nat) (fp : List Nat) (S' : Ar) : Prop where
  at_ : ∃ fp', ArenaAt w' b fp' S' ∧ ∀ x ∈ fp', x ∈ fp ∨ w.heap.size ≤ x
  kept : Kept fp w w'

/-- New. -/
theorem new_arena (w : World) (size : Int) (h0 : 1 ≤ size) (h1 : size ≤ 65536) :
    Calls Tryd.prog 22 #[.int .i64 size] w fun e w' => e = .returned (.tuple #[.pointer (some ⟨w.heap.size, 0, none⟩), .int .i64 0]) ∧ ArenaAt w' w.heap.size [w.heap.size] ⟨size.toNat, fun _ => none, 0⟩ ∧ Kept [] w w' := by
  refine (new_walk w size h0 h1).mono ?_
  rintro e w' ⟨rfl, rfl⟩
  refine ⟨rfl, ⟨.slice none 0 0, [], fun _ => 0, 0, 0, ⟨?_, World.ownsRow_nil _ _ _ _, by simp [Value.ownBlock], by simp, by simp⟩, rfl, ?_⟩, (Kept.refl [] w).alloc _⟩
  · refine Blk.made w _ _ _ _ (by rw [Array.size_setIfInBounds]; exact arCells_size) ?_
    intro i hi
    have := arCells_get size i hi
    rw [this]
    show some (arF size _ _ _ _ _ i) = some (arF (size.toNat : Int) _ _ _ _ _ i)
    rw [show ((size.toNat : Nat) : Int) = size from by omega]
    rfl
  · refine ⟨by show 1 ≤ size.toNat; omega, by show size.toNat ≤ 65536; omega, Nat.zero_le _, by simp, by simp, ?_, by omega, by omega⟩
    show 0 = cnt (fun _ => none) size.toNat
    generalize size.toNat = n
    induction n with
    | zero => rfl
    | succ n ih => simpa [cnt] using ih

/-- A touched arena: the same, one step more. -/
def Ar.step (S : Ar) : Ar := { S with steps := wrap64 (S.steps + 1) }
def Ar.put (S : Ar) (c : Nat) (v : Int) : Ar := { S with get := fun d => if d = c then some v else S.get d }
def Ar.drop (S : Ar) (c : Nat) : Ar := { S with get := fun d => if d = c then none else S.get d }

theorem ArInv.step {S hs ws low used} (h : ArInv S hs ws low used) (s : Int) : ArInv { S with steps := s } hs ws low used :=
  ⟨h.one, h.max, h.cap, h.get, h.supp, h.many, h.lows, h.lowm⟩

/-- What is not taken is refused. -/
theorem step_no {w b fp} {S : Ar} (h : ArenaAt w b fp S) (c : Int) (h0 : -9223372036854775808 ≤ c) (h1 : c < 9223372036854775808) (hn : c < 0 ∨ S.get c.toNat = none) :
    Calls Tryd.prog 34 #[.pointer (some ⟨b, 0, none⟩), .int .i64 c] w fun e w' => e = .returned (.tuple #[.pointer none, .int .i64 30]) ∧ w = w' := by
  obtain ⟨hv, hs, ws, low, used, hr, rfl, hi⟩ := h
  have ht := there_calls hr c h0 h1
  have : takenAt hs ws c = false := by
    rw [ArenaAt.taken hi]
    rcases hn with hn | hn
    · simp; omega
    · simp [hn]
  rw [this] at ht
  exact step_walk_no w b c ht

theorem step_yes {w b fp} {S : Ar} (h : ArenaAt w b fp S) (k : Nat) (v : Int) (hg : S.get k = some v) :
    ∃ hv hs ws g cap, ∃ low used : Nat, ArRep w b hv S.size hs ws low used S.steps ∧ fp = b :: rowsOf hv ∧ ArInv S hs ws low used ∧ hv = .slice (some ⟨g, 0, none⟩) hs.length cap ∧ g ≠ b ∧ k < hs.length ∧ w.cell? ⟨g, k, none⟩ = some (.int .u64 v) ∧ w.frozen? ⟨g, k, none⟩ = false ∧
      Calls Tryd.prog 34 #[.pointer (some ⟨b, 0, none⟩), .int .i64 k] w fun e w' => e = .returned (.tuple #[.pointer (some ⟨g, k, none⟩), .int .i64 0]) ∧ w' = w.setCell ⟨b, 1028, none⟩ (.int .i64 (wrap64 (S.steps + 1))) := by
  obtain ⟨hv, hs, ws, low, used, hr, rfl, hi⟩ := h
  have htk : takenAt hs ws (k : Int) = true := by rw [ArenaAt.taken hi]; simp [hg]
  obtain ⟨hd, hlt⟩ := ArenaAt.getD hi hg
  have hm := hi.max
  have hc := hi.cap
  have ht := there_calls hr (k : Int) (by omega) (by omega)
  rw [htk] at ht
  obtain ⟨g, cap, k', hk', h1, rfl, h2, h3, h4, h5, h6, h7⟩ := hr.at_ htk
  obtain rfl : k = k' := by omega
  rw [hd] at h6
  exact ⟨_, hs, ws, g, cap, low, used, hr, rfl, hi, rfl, h2, h1, h6, h7, step_walk w b g hs.length cap k S.steps h1 hr.few h4 h5 hr.c1 hr.c5 (hr.blk.free _) ht⟩

/-- A touch without a change. -/
theorem touched {w b fp} {S : Ar} {hv hs ws} {low used : Nat} (hr : ArRep w b hv S.size hs ws low used S.steps) (hfp : fp = b :: rowsOf hv) (hi : ArInv S hs ws low used) :
    ArOp w (w.setCell ⟨b, 1028, none⟩ (.int .i64 (wrap64 (S.steps + 1)))) b fp S.step := by
  obtain ⟨h1, h2⟩ := hr.stepped (wrap64 (S.steps + 1))
  subst hfp
  exact ⟨⟨_, ⟨hv, hs, ws, low, used, h1, rfl, hi.step _⟩, fun x hx => .inl hx⟩, h2.mono (fun k _ m => by simp at m; simp [m])⟩

/-- A touch that lays a word. -/
theorem laid {w b fp} {S : Ar} {hs ws g n cap} {low used : Nat} (hr : ArRep w b (.slice (some ⟨g, 0, none⟩) n cap) S.size hs ws low used S.steps) (hfp : fp = b :: rowsOf (.slice (some ⟨g, 0, none⟩) n cap)) (hi : ArInv S hs ws low used)
    (k : Nat) (hk : k < hs.length) (hg : (S.get k).isSome = true) (v : Int) :
    ArOp w ((w.setCell ⟨b, 1028, none⟩ (.int .i64 (wrap64 (S.steps + 1)))).setCell ⟨g, k, none⟩ (.int .u64 v)) b fp (S.step.put k v) := by
  obtain ⟨h1, h2⟩ := hr.stepped (wrap64 (S.steps + 1))
  subst hfp
  refine ⟨⟨_, ⟨_, hs.set k v, ws, low, used, h1.putCell k v hk, rfl, ?_⟩, fun x hx => .inl hx⟩, (h2.mono (fun k _ m => by simp at m; simp [m])).set _ (by simp [rowsOf, Value.ownBlock])⟩
  refine ⟨hi.one, hi.max, by rw [List.length_set]; exact hi.cap, ?_, by simpa using hi.supp, ?_, hi.lows, hi.lowm⟩
  · intro c
    show (if c = k then some v else S.get c) = _
    by_cases e : c = k
    · subst e
      rw [hi.get c] at hg
      rw [if_pos rfl]
      split at hg
      · rename_i ht
        rw [if_pos ht]
        simp [hk]
      · cases hg
    · rw [if_neg e, hi.get c]
      simp [Ne.symm e]
  · show used = cnt (fun d => if d = k then some v else S.get d) S.size
    rw [hi.many]
    refine cnt_congr _ _ _ fun c hc => ?_
    by_cases e : c = k
    · subst e; rw [if_pos rfl, hg]; rfl
    · rw [if_neg e]

theorem load_arena {w b fp} {S : Ar} (h : ArenaAt w b fp S) (k : Nat) (v : Int) (hg : S.get k = some v) :
    Calls Tryd.prog 27 #[.pointer (some ⟨b, 0, none⟩), .int .i64 k] w fun e w' => e = .returned (.tuple #[.int .u64 v, .int .i64 0]) ∧ ArOp w w' b fp S.step := by
  obtain ⟨hv, hs, ws, g, cap, low, used, hr, hfp, hi, rfl, hgb, hk, hc, hf, hst⟩ := step_yes h k v hg
  refine (load_walk w b g k _ v hgb hc hf hst).mono ?_
  rintro e w' ⟨rfl, rfl⟩
  exact ⟨rfl, touched hr hfp hi⟩

theorem load_arena_no {w b fp} {S : Ar} (h : ArenaAt w b fp S) (c : Int) (h0 : -9223372036854775808 ≤ c) (h1 : c < 9223372036854775808) (hn : c < 0 ∨ S.get c.toNat = none) :
    Calls Tryd.prog 27 #[.pointer (some ⟨b, 0, none⟩), .int .i64 c] w fun e w' => e = .returned (.tuple #[.int .u64 0, .int .i64 30]) ∧ w = w' :=
  load_walk_no w b c (step_no h c h0 h1 hn)

theorem store_arena {w b fp} {S : Ar} (h : ArenaAt w b fp S) (k : Nat) (v x : Int) (hg : S.get k = some v) :
    Calls Tryd.prog 45 #[.pointer (some ⟨b, 0, none⟩), .int .i64 k, .int .u64 x] w fun e w' => e = .returned (.int .i64 0) ∧ ArOp w w' b fp (S.step.put k x) := by
  obtain ⟨hv, hs, ws, g, cap, low, used, hr, hfp, hi, rfl, hgb, hk, hc, hf, hst⟩ := step_yes h k v hg
  refine (store_walk w b g k _ v x hgb hc hf hst).mono ?_
  rintro e w' ⟨rfl, rfl⟩
  exact ⟨rfl, laid hr hfp hi k hk (by rw [hg]; rfl) x⟩

theorem store_arena_no {w b fp} {S : Ar} (h : ArenaAt w b fp S) (c x : Int) (h0 : -9223372036854775808 ≤ c) (h1 : c < 9223372036854775808) (hn : c < 0 ∨ S.get c.toNat = none) :
    Calls Tryd.prog 45 #[.pointer (some ⟨b, 0, none⟩), .int .i64 c, .int .u64 x] w fun e w' => e = .returned (.int .i64 30) ∧ w = w' :=
  store_walk_no w b c x (step_no h c h0 h1 hn)

theorem cas_arena {w b fp} {S : Ar} (h : ArenaAt w b fp S) (k : Nat) (v x : Int) (hg : S.get k = some v) :
    Calls Tryd.prog 46 #[.pointer (some ⟨b, 0, none⟩), .int .i64 k, .int .u64 v, .int .u64 x] w fun e w' => e = .returned (.tuple #[.bool true, .int .i64 0]) ∧ ArOp w w' b fp (S.step.put k x) := by
  obtain ⟨hv, hs, ws, g, cap, low, used, hr, hfp, hi, rfl, hgb, hk, hc, hf, hst⟩ := step_yes h k v hg
  refine (cas_walk w b g k _ v v x hgb hc hf (by simp) (by simp) hst).mono ?_
  rintro e w' ⟨rfl, rfl⟩
  exact ⟨rfl, laid hr hfp hi k hk (by rw [hg]; rfl) x⟩

theorem cas_arena_not {w b fp} {S : Ar} (h : ArenaAt w b fp S) (k : Nat) (v o x : Int) (hg : S.get k = some v) (hne : v ≠ o) :
    Calls Tryd.prog 46 #[.pointer (some ⟨b, 0, none⟩), .int .i64 k, .int .u64 o, .int .u64 x] w fun e w' => e = .returned (.tuple #[.bool false, .int .i64 0]) ∧ ArOp w w' b fp S.step := by
  obtain ⟨hv, hs, ws, g, cap, low, used, hr, hfp, hi, rfl, hgb, hk, hc, hf, hst⟩ := step_yes h k v hg
  refine (cas_walk_not w b g k _ v o x hgb hc hf (by simpa using hne) (by simpa using hne) hst).mono ?_
  rintro e w' ⟨rfl, rfl⟩
  exact ⟨rfl, touched hr hfp hi⟩

theorem cas_arena_no {w b fp} {S : Ar} (h : ArenaAt w b fp S) (c o x : Int) (h0 : -9223372036854775808 ≤ c) (h1 : c < 9223372036854775808) (hn : c < 0 ∨ S.get c.toNat = none) :
    Calls Tryd.prog 46 #[.pointer (some ⟨b, 0, none⟩), .int .i64 c, .int .u64 o, .int .u64 x] w fun e w' => e = .returned (.tuple #[.bool false, .int .i64 30]) ∧ w = w' :=
  cas_walk_no w b c o x (step_no h c h0 h1 hn)

theorem free_arena_no {w b fp} {S : Ar} (h : ArenaAt w b fp S) (c : Int) (h0 : -9223372036854775808 ≤ c) (h1 : c < 9223372036854775808) (hn : c < 0 ∨ S.get c.toNat = none) :
    Calls Tryd.prog 42 #[.pointer (some ⟨b, 0, none⟩), .int .i64 c] w fun e w' => e = .returned (.int .i64 30) ∧ w = w' := by
  obtain ⟨hv, hs, ws, low, used, hr, rfl, hi⟩ := h
  have ht := there_calls hr c h0 h1
  have : takenAt hs ws c = false := by
    rw [ArenaAt.taken hi]
    rcases hn with hn | hn
    · simp; omega
    · simp [hn]
  rw [this] at ht
  exact free_walk_no w b c ht

theorem free_arena {w b fp} {S : Ar} (h : ArenaAt w b fp S) (k : Nat) (v : Int) (hg : S.get k = some v) :
    Calls Tryd.prog 42 #[.pointer (some ⟨b, 0, none⟩), .int .i64 k] w fun e w' => e = .returned (.int .i64 0) ∧ ArOp w w' b fp (S.drop k) := by
  obtain ⟨hv, hs, ws, low, used, hr, rfl, hi⟩ := h
  have htk : takenAt hs ws (k : Int) = true := by rw [ArenaAt.taken hi]; simp [hg]
  obtain ⟨hd, hlt⟩ := ArenaAt.getD hi hg
  have hm := hi.max
  have hc := hi.cap
  have hlow := hi.lowm
  have ht := there_calls hr (k : Int) (by omega) (by omega)
  rw [htk] at ht
  have hdec := cnt_free S.get k S.size (by omega) (by rw [hg]; rfl)
  have hle := cnt_le S.get S.size
  have hmany := hi.many
  obtain ⟨y, hy1, hy2, hy3⟩ := andnot_pow (ws (k / 64)) (k % 64) (hr.word _) (by omega)
  refine (free_walk w b k (ws (k / 64)) low used (by omega) (by omega) (by omega) (by omega) (by omega) (hr.c2 (by omega)) hr.c3 hr.c4 hr.blk.free ht).mono ?_
  rintro e w' ⟨rfl, rfl⟩
  rw [hy1]
  have h1 := ((hr.putWord (k / 64) y (by omega) hy2).putLow (if (k : Int) / 64 < low then (k : Int) / 64 else low)).putUsed ((used : Int) - 1)
  have e1 : (if (k : Int) / 64 < low then (k : Int) / 64 else (low : Int)) = ((if k / 64 < low then k / 64 else low : Nat) : Int) := by split <;> split <;> omega
  rw [e1] at h1 ⊢
  have e2 : (used : Int) - 1 = ((used - 1 : Nat) : Int) := by omega
  rw [e2] at h1 ⊢
  refine ⟨rfl, ⟨⟨_, ⟨hv, hs, _, _, _, h1.drew, rfl, ?_⟩, fun x hx => .inl hx⟩, ((((Kept.refl _ w).set _ (by simp)).set _ (by simp)).set _ (by simp)).drew⟩⟩
  refine ⟨hi.one, hi.max, hi.cap, ?_, ?_, ?_, ?_, by split <;> omega⟩
  · intro c
    show (if c = k then none else S.get c) = _
    by_cases e : c / 64 = k / 64
    · simp only [e, if_true, hy3]
      by_cases e3 : c = k
      · subst e3; simp
      · rw [if_neg e3, hi.get c, e]
        have : ¬ c % 64 = k % 64 := by omega
        simp [this]
    · have : ¬ c = k := by intro h; subst h; exact e rfl
      rw [if_neg this, if_neg e, hi.get c]
  · intro c hc'
    refine hi.supp c ?_
    by_cases e : c / 64 = k / 64
    · simp only [e, if_true, hy3] at hc'
      rw [e]
      simp at hc'
      exact hc'.1
    · simpa [e] using hc'
  · show used - 1 = cnt (fun d => if d = k then none else S.get d) S.size
    omega
  · intro i hi'
    have : ¬ i = k / 64 := by split at hi' <;> omega
    rw [if_neg this]
    refine hi.lows i ?_
    split at hi' <;> omega

theorem all_ones (x : Nat) (hx : x < 18446744073709551616) (h : ∀ j, j < 64 → x.testBit j = true) : x = 18446744073709551615 := by
  apply Nat.eq_of_testBit_eq
  intro i
  have e : (18446744073709551615 : Nat) = 2 ^ 64 - 1 := by decide
  rw [e, Nat.testBit_two_pow_sub_one]
  by_cases hi : i < 64
  · simp [hi, h i hi]
  · have : x.testBit i = false := Nat.testBit_lt_two_pow (Nat.lt_of_lt_of_le hx (by have : 2 ^ 64 ≤ 2 ^ i := Nat.pow_le_pow_right (by omega) (by omega); omega))
    simp [hi, this]

theorem ones_bit (j : Nat) (hj : j < 64) : (18446744073709551615 : Nat).testBit j = true := by
  have e : (18446744073709551615 : Nat) = 2 ^ 64 - 1 := by decide
  rw [e, Nat.testBit_two_pow_sub_one]
  simpa using hj

theorem alloc_arena_full {w b fp} {S : Ar} (h : ArenaAt w b fp S) (hfull : ∀ c, c < S.size → (S.get c).isSome = true) :
    Calls Tryd.prog 35 #[.pointer (some ⟨b, 0, none⟩)] w fun e w' => e = .returned (.tuple #[.int .i64 0, .int .i64 31]) ∧ ArOp w w' b fp S := by
  obtain ⟨hv, hs, ws, low, used, hr, rfl, hi⟩ := h
  have hu : used = S.size := by rw [hi.many]; exact (cnt_full _ _).2 hfull
  refine (alloc_walk_full w b S.size used hr.c0 hr.c4 (by simp [hu])).mono ?_
  rintro e w' ⟨rfl, n, rfl⟩
  exact ⟨rfl, ⟨⟨_, ⟨hv, hs, ws, low, used, hr.drewN n, rfl, hi⟩, fun x hx => .inl hx⟩, (Kept.refl _ w).drewN n⟩⟩

theorem alloc_arena {w b fp} {S : Ar} (h : ArenaAt w b fp S) (hT : TabAt w) (hb0 : b ≠ 0) (c : Nat) (hc : c < S.size) (hg : S.get c = none) (hleast : ∀ d, d < c → (S.get d).isSome = true) :
    Calls Tryd.prog 35 #[.pointer (some ⟨b, 0, none⟩)] w fun e w' => e = .returned (.tuple #[.int .i64 c, .int .i64 0]) ∧ ArOp w w' b fp (S.put c 0) := by
  obtain ⟨hv, hs, ws, low, used, hr, rfl, hi⟩ := h
  have hmax := hi.max
  have hbit : (ws (c / 64)).testBit (c % 64) = false := by
    have := hi.get c
    rw [hg] at this
    cases ht : (ws (c / 64)).testBit (c % 64)
    · rfl
    · rw [ht] at this; cases this
  have hbits : ∀ d, d < c → (ws (d / 64)).testBit (d % 64) = true := by
    intro d hd
    have := hleast d hd
    rw [hi.get d] at this
    split at this
    · assumption
    · cases this
  have hne : ws (c / 64) ≠ 18446744073709551615 := by
    intro e
    rw [e, ones_bit _ (by omega)] at hbit
    cases hbit
  have hlow : low ≤ c / 64 := by
    refine Nat.le_of_not_lt fun hlt => ?_
    exact hne (hi.lows _ hlt)
  have hgap := least_gap (ws (c / 64)) (hr.word _) hne
  have hj : Lib.ctz 64 (18446744073709551615 - ws (c / 64)) = c % 64 := by
    obtain ⟨g1, g2, g3⟩ := hgap
    generalize Lib.ctz 64 (18446744073709551615 - ws (c / 64)) = j at *
    rcases Nat.lt_trichotomy j (c % 64) with hlt | he | hlt
    · have := hbits (c / 64 * 64 + j) (by omega)
      rw [show (c / 64 * 64 + j) / 64 = c / 64 from by omega, show (c / 64 * 64 + j) % 64 = j from by omega] at this
      rw [this] at g2; cases g2
    · exact he
    · have := g3 _ hlt
      rw [this] at hbit; cases hbit
  have hlen : c ≤ hs.length := by
    refine Nat.le_of_not_lt fun hlt => ?_
    have := hi.supp _ (hbits hs.length hlt)
    omega
  have hused : used < S.size := by
    rw [hi.many]
    refine Nat.lt_of_le_of_ne (cnt_le _ _) fun e => ?_
    have := (cnt_full _ _).1 e c hc
    rw [hg] at this; cases this
  refine (alloc_walk w b hv S.size hs ws low used S.steps (c / 64) hr hT hb0 (by omega) (by omega) hlow (by omega) ?_ hne (c % 64) hj (by omega) (by omega)).mono ?_
  · intro i _ hi2
    refine all_ones _ (hr.word i) fun j hj => ?_
    have := hbits (64 * i + j) (by omega)
    rwa [show (64 * i + j) / 64 = i from by omega, show (64 * i + j) % 64 = j from by omega] at this
  rintro e w' ⟨rfl, hv', hrep, hkept, hplace⟩
  have ec : c / 64 * 64 + c % 64 = c := by omega
  have ec2 : ((c / 64 : Nat) : Int) * 64 + ((c % 64 : Nat) : Int) = (c : Int) := by omega
  rw [ec] at hrep
  refine ⟨by rw [← ec2], ⟨⟨_, ⟨hv', _, _, c / 64, used + 1, hrep, rfl, ?_⟩, ?_⟩, hkept⟩⟩
  · have hl : (if c = hs.length then hs ++ [0] else hs.set c 0).length = if c = hs.length then hs.length + 1 else hs.length := by split <;> simp
    have hget : ∀ d, d ≠ c → d < hs.length → (if c = hs.length then hs ++ [0] else hs.set c 0).getD d 0 = hs.getD d 0 := by
      intro d hd hd2
      split
      · rw [List.getD_eq_getElem?_getD, List.getElem?_append_left hd2, List.getD_eq_getElem?_getD]
      · simp [Ne.symm hd]
    have hgetc : (if c = hs.length then hs ++ [0] else hs.set c 0).getD c 0 = 0 := by
      split
      · rename_i e; rw [e]; simp
      · rename_i e
        have hlt : c < hs.length := by omega
        simp [hlt]
    have hor : ∀ d, ((if d / 64 = c / 64 then ws (c / 64) ||| 2 ^ (c % 64) else ws (d / 64))).testBit (d % 64) = ((ws (d / 64)).testBit (d % 64) || decide (d = c)) := by
      intro d
      by_cases e : d / 64 = c / 64
      · rw [if_pos e, Nat.testBit_or, Nat.testBit_two_pow, e]
        congr 1
        apply Bool.eq_iff_iff.2
        simp only [decide_eq_true_eq]
        omega
      · rw [if_neg e]
        have : ¬ d = c := by intro h; subst h; exact e rfl
        simp [this]
    refine ⟨hi.one, hi.max, ?_, ?_, ?_, ?_, ?_, by omega⟩
    · rw [hl]
      show _ ≤ S.size
      split
      · omega
      · exact hi.cap
    · intro d
      show (if d = c then some 0 else S.get d) = _
      rw [hor d]
      by_cases e : d = c
      · subst e; simp only [if_true, decide_true, Bool.or_true, hgetc]
      · rw [if_neg e, hi.get d]
        cases ht : (ws (d / 64)).testBit (d % 64)
        · simp [e]
        · have := hi.supp d ht
          simp only [if_true, Bool.true_or, hget d e this]
    · intro d hd
      rw [hor d] at hd
      rw [hl]
      simp only [Bool.or_eq_true, decide_eq_true_eq] at hd
      rcases hd with hd | hd
      · have := hi.supp d hd
        split <;> omega
      · split <;> omega
    · show used + 1 = cnt (fun d => if d = c then some 0 else S.get d) S.size
      rw [cnt_set S.get c 0 S.size hc hg, hi.many]
    · intro i hi2
      rw [if_neg (by omega)]
      by_cases hlt : i < low
      · exact hi.lows i hlt
      · refine all_ones _ (hr.word i) fun j hj => ?_
        have := hbits (64 * i + j) (by omega)
        rwa [show (64 * i + j) / 64 = i from by omega, show (64 * i + j) % 64 = j from by omega] at this
  · intro x hx
    simp only [List.mem_cons] at hx ⊢
    rcases hx with rfl | hx
    · exact .inl (.inl rfl)
    · rcases hplace x (mem_rowsOf.1 hx) with h | h
      · exact .inl (.inr (mem_rowsOf.2 h))
      · exact .inr h

theorem used_arena {w b fp} {S : Ar} (h : ArenaAt w b fp S) :
    Calls Tryd.prog 13 #[.pointer (some ⟨b, 0, none⟩)] w fun e w' => e = .returned (.int .i64 (cnt S.get S.size)) ∧ w = w' := by
  obtain ⟨hv, hs, ws, low, used, hr, rfl, hi⟩ := h
  rw [← hi.many]
  exact used_walk w b used hr.c4

end Go.Proofs.YtpckpgdkfimapaaDoor
