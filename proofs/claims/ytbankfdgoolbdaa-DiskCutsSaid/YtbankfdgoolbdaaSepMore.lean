/- More on parts side by side: what may be forgotten, appends, stores, what is read. Plain lemmas: nothing is claimed of a program here. -/
import Derived.Test.YtbankfdgoolbdaaSep
import Derived.Test.YtbankfdgoolbdaaRow
namespace Go.Proofs.Ytbankfdgoolbdaa
open Go Go.RowKit
set_option linter.unusedVariables false
variable {o : List Nat} {w0 w w' : World} {A B C : Part} {fp : List Nat} {n : Nat} {f g : Nat → Part}

/-- One part holds another one. -/
def Part.Imp (A B : Part) : Prop := ∀ w fp, A.at_ w fp → ∃ fp', B.at_ w fp' ∧ ∀ x ∈ fp', x ∈ fp

theorem Has.weaken (h : Has o w0 w A) (i : A.Imp B) : Has o w0 w B := by
  obtain ⟨fp, hA, hn, k⟩ := h
  obtain ⟨fp', hB, hs⟩ := i w fp hA
  exact ⟨fp', hB, fun x hx => hn x (hs x hx), k⟩

theorem Part.Imp.refl (A : Part) : A.Imp A := fun w fp h => ⟨fp, h, fun _ h => h⟩
theorem Part.Imp.fst (A B : Part) : (A.sep B).Imp A := by
  rintro w fp ⟨f, g, hA, hB, hd, rfl⟩
  exact ⟨f, hA, fun x hx => by simp [hx]⟩
theorem Part.Imp.snd (A B : Part) : (A.sep B).Imp B := by
  rintro w fp ⟨f, g, hA, hB, hd, rfl⟩
  exact ⟨g, hB, fun x hx => by simp [hx]⟩
theorem Part.Imp.trans {A B C : Part} (h : A.Imp B) (h' : B.Imp C) : A.Imp C := by
  intro w fp hA
  obtain ⟨f1, hB, s1⟩ := h w fp hA
  obtain ⟨f2, hC, s2⟩ := h' w f1 hB
  exact ⟨f2, hC, fun x hx => s1 x (s2 x hx)⟩
theorem Part.Imp.sep {A B A' B' : Part} (h : A.Imp A') (h' : B.Imp B') : (A.sep B).Imp (A'.sep B') := by
  rintro w fp ⟨f, g, hA, hB, hd, rfl⟩
  obtain ⟨f1, hA', s1⟩ := h w f hA
  obtain ⟨g1, hB', s2⟩ := h' w g hB
  refine ⟨f1 ++ g1, ⟨f1, g1, hA', hB', fun x hx hx' => hd x (s1 x hx) (s2 x hx'), rfl⟩, fun x hx => ?_⟩
  rcases List.mem_append.1 hx with h | h
  · simp [s1 x h]
  · simp [s2 x h]
theorem Part.Imp.all (h : ∀ i, i < n → (f i).Imp (g i)) : (Part.all n f).Imp (Part.all n g) := by
  rintro w fp ⟨F, hF, hd, hm⟩
  have hex : ∀ i, ∃ l, i < n → (g i).at_ w l ∧ ∀ x ∈ l, x ∈ F i := by
    intro i
    by_cases hi : i < n
    · obtain ⟨l, h1, h2⟩ := h i hi w (F i) (hF i hi)
      exact ⟨l, fun _ => ⟨h1, h2⟩⟩
    · exact ⟨[], fun h => absurd h hi⟩
  obtain ⟨G, hG⟩ := Classical.axiomOfChoice hex
  refine ⟨(List.range n).flatMap G, ⟨G, fun i hi => (hG i hi).1, fun i j hi hj hne x hx hx' => hd i j hi hj hne x ((hG i hi).2 x hx) ((hG j hj).2 x hx'), fun x => by simp⟩, ?_⟩
  intro x hx
  simp only [List.mem_flatMap, List.mem_range] at hx
  obtain ⟨i, hi, hx⟩ := hx
  exact (hm x).2 ⟨i, hi, (hG i hi).2 x hx⟩

/-- A row's numbers, as they are read. -/
def RowAt (w : World) (v : Value) (n : Nat) (xs : Nat → Value) : Prop :=
  ∃ p cap, v = .slice p n cap ∧ (0 < n → ∃ b off, p = some ⟨b, off, none⟩ ∧ b < w.heap.size ∧ ∀ i, i < n → w.cell? ⟨b, off + i, none⟩ = some (xs i))

theorem RowAt.kept {own : List Nat} {v : Value} {xs : Nat → Value} (h : RowAt w v n xs) (k : Kept own w w') (hown : ∀ x ∈ own, w.heap.size ≤ x) : RowAt w' v n xs := by
  obtain ⟨p, cap, rfl, h3⟩ := h
  refine ⟨p, cap, rfl, fun hp => ?_⟩
  obtain ⟨b, off, rfl, hb, hc⟩ := h3 hp
  exact ⟨b, off, rfl, Nat.lt_of_lt_of_le hb k.size, fun i hi => k.cell (hc i hi) fun m => by have := hown b m; omega⟩

theorem rowAt_of {e : TypeId} {v : Value} {xs : List Value} (h : w.ownsRow 0 e 1 v n xs) (f : Nat → Value) (hf : ∀ i, i < n → xs[i]? = some (f i)) : RowAt w v n f := by
  rcases row_val h with ⟨h1, h0⟩ | ⟨g, cap, h1, _, _, hg, _, hc⟩
  · exact ⟨none, 0, by rw [h1, h0], fun h => by omega⟩
  · exact ⟨_, cap, h1, fun _ => ⟨g, 0, rfl, hg, fun i hi => by rw [Nat.zero_add]; exact hc i _ (hf i hi)⟩⟩

theorem Has.rowAt {e : TypeId} {v : Value} {xs : List Value} (h : Has o w0 w (.row e 1 v n xs)) (f : Nat → Value) (hf : ∀ i, i < n → xs[i]? = some (f i)) : RowAt w v n f := by
  obtain ⟨fp, ⟨hr, _⟩, _⟩ := h
  exact rowAt_of hr f hf

/-- An append to a row of the call's own. -/
theorem Has.appendRow {w5 : World} {m len : Nat} {e : TypeId} {v v' : Value} {xs news : List Value} (ob : Obj)
    (h : Has o w0 w (.row e 1 v len xs)) (happ : Appended (w.alloc ob) w5 e 1 v v' (len + m) (xs ++ news)) :
    Has o w0 w5 (.row e 1 v' (len + m) (xs ++ news)) := by
  obtain ⟨fp, ⟨hr, rfl⟩, hn, k⟩ := h
  have k1 : Kept (rowsOf v) w w5 := ((Kept.refl _ w).alloc ob).grown happ.grown fun b _ e => by simp [mem_rowsOf, e]
  refine Has.step hn k ⟨rowsOf v', ⟨happ.row, rfl⟩, ?_, k1⟩
  intro x hx
  rw [mem_rowsOf] at hx ⊢
  rcases happ.place with e | e
  · rw [e] at hx; exact .inl hx
  · rw [e] at hx
    simp only [Option.some.injEq] at hx
    right
    have : (w.alloc ob).heap.size = w.heap.size + 1 := by simp
    omega

/-- A store into a row of the call's own. -/
theorem Has.setRow {gb cap len : Nat} {e : TypeId} {xs : List Value} (h : Has o w0 w (.row e 1 (.slice (some ⟨gb, 0, none⟩) len cap) len xs)) (k : Nat) (u : Value) (hk : k < len) :
    Has o w0 (w.setCell ⟨gb, k, none⟩ u) (.row e 1 (.slice (some ⟨gb, 0, none⟩) len cap) len (xs.set k u)) := by
  obtain ⟨fp, ⟨hr, rfl⟩, hn, k0⟩ := h
  refine Has.step hn k0 ⟨_, ⟨row_put hr k u hk, rfl⟩, fun x hx => .inl hx, (Kept.refl _ w).set _ (by simp [rowsOf, Value.ownBlock])⟩

/-- A cell of a row that may be stored to. -/
theorem Has.rowCell {gb cap len : Nat} {e : TypeId} {xs : List Value} (h : Has o w0 w (.row e 1 (.slice (some ⟨gb, 0, none⟩) len cap) len xs)) (k : Nat) (u : Value) (hk : xs[k]? = some u) :
    w.cell? ⟨gb, k, none⟩ = some u ∧ w.frozen? ⟨gb, k, none⟩ = false := by
  obtain ⟨fp, ⟨hr, rfl⟩, hn, k0⟩ := h
  rcases row_val hr with ⟨h1, h0⟩ | ⟨g, cap', h1, _, _, hg, hf, hc⟩
  · cases h1
  · cases h1
    exact ⟨hc k u hk, hf k⟩

/-- A row just made. -/
theorem Has.made (e : TypeId) (cs : Array Value) (h : cs.size ≤ maxLen) : Has [] w (w.alloc (.cells cs e)) (.row e 1 (.slice (some ⟨w.heap.size, 0, none⟩) cs.size cs.size) cs.size cs.toList) := by
  refine ⟨[w.heap.size], ⟨?_, rfl⟩, by simp, (Kept.refl [] w).alloc _⟩
  exact World.ownsRow_lit w cs cs.size (Nat.zero_le _) h (by simp)

theorem Has.madeBlk (cs : Array Value) (T : TypeId) (f : Nat → Value) (m : Nat) (hn : cs.size = m) (hf : ∀ i, i < m → cs[i]? = some (f i)) : Has [] w (w.alloc (.cells cs T)) (.blk w.heap.size m T f) :=
  ⟨[w.heap.size], ⟨Blk.made w cs T f m hn hf, rfl⟩, by simp, (Kept.refl [] w).alloc _⟩

end Go.Proofs.Ytbankfdgoolbdaa
