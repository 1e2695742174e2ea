/- Programs of a call's own: rows of operations that grow. Plain lemmas: nothing is claimed of a program here. -/
import Derived.Test.YtfipoadgfebibaaDoorRunS
namespace Go.Proofs.YtfipoadgfebibaaDoor
open Go Go.RowKit
set_option linter.unusedVariables false
variable {o : List Nat} {w0 w w' : World} {A B C : Part} {fp : List Nat} {n : Nat} {f g : Nat → Part}

def OpV.cells (o : OpV) : List Value := [.int .i64 o.k, .int .i64 o.c, .int .u64 o.x, .int .u64 o.y]
def OpV.nil : OpV := ⟨0, 0, 0, 0⟩

/-- A row of operations that a slice owns. -/
noncomputable def Part.ops (v : Value) (l : List OpV) : Part := .row 38 4 v l.length (l.flatMap OpV.cells)

theorem flat4 (l : List OpV) (i : Nat) (x : OpV) (h : l[i]? = some x) (j : Nat) (hj : j < 4) : (l.flatMap OpV.cells)[i * 4 + j]? = (OpV.cells x)[j]? := by
  induction l generalizing i with
  | nil => simp at h
  | cons a l ih =>
    rw [List.flatMap_cons]
    cases i with
    | zero =>
      simp at h
      subst h
      rw [List.getElem?_append_left (by simp [OpV.cells]; omega)]
      simp
    | succ i =>
      rw [List.getElem?_append_right (by simp [OpV.cells]; omega)]
      have := ih i (by simpa using h)
      rw [← this]
      congr 1
      simp [OpV.cells]
      omega

theorem flat4_len (l : List OpV) : (l.flatMap OpV.cells).length = l.length * 4 := by
  induction l with
  | nil => rfl
  | cons a l ih => rw [List.flatMap_cons, List.length_append, ih]; simp [OpV.cells]; omega

theorem add0 (b i : Nat) : (⟨b, 0, none⟩ : Addr).add i = ⟨b, i, none⟩ := by
  simp only [Addr.add]
  split
  · rename_i h; subst h; rfl
  · simp

/-- A row with its cells, whatever an element's size. -/
theorem rowN_val {e : TypeId} {size : Nat} {v : Value} {xs : List Value} (h : w.ownsRow 0 e size v n xs) :
    (v = .slice none 0 0 ∧ n = 0) ∨ ∃ g cap, v = .slice (some ⟨g, 0, none⟩) n cap ∧ n ≤ cap ∧ cap ≤ maxLen ∧ g < w.heap.size ∧ (∀ i, w.frozen? ⟨g, i, none⟩ = false) ∧ ∀ i u, xs[i]? = some u → w.cell? ⟨g, i, none⟩ = some u := by
  rcases h.2 with ⟨h1, h0⟩ | ⟨g, cap, cur, rfl, _, hg, hnc, hcm, hcs, htake⟩
  · exact .inl ⟨h1, h0⟩
  · refine .inr ⟨g, cap, rfl, hnc, hcm, (Array.getElem?_eq_some_iff.1 hg).1, fun i => by simp [World.frozen?, hg], fun i u hu => ?_⟩
    have := h.cells (g := g) rfl i u hu
    rwa [add0] at this

theorem Has.opsAt {v : Value} {l : List OpV} (h : Has o w0 w (.ops v l)) (hc : ∀ x ∈ l, -9223372036854775808 ≤ x.c ∧ x.c < 9223372036854775808) : OpsAt w v l.length (fun i => l.getD i .nil) := by
  obtain ⟨fp, ⟨hr, _⟩, _⟩ := h
  have h9 : maxLen ≤ 9223372036854775807 := by decide
  have hget : ∀ i, i < l.length → l[i]? = some (l.getD i .nil) := fun i hi => by rw [List.getD_eq_getElem?_getD, List.getElem?_eq_getElem hi]; rfl
  have hmem : ∀ i, i < l.length → l.getD i .nil ∈ l := fun i hi => List.mem_of_getElem? (hget i hi)
  rcases rowN_val hr with ⟨rfl, h0⟩ | ⟨g, cap, rfl, hnc, hcm, hg, _, hcell⟩
  · exact ⟨none, 0, by rw [h0], by omega, fun i hi => by omega, fun hp => by omega⟩
  · refine ⟨_, cap, rfl, by omega, fun i hi => hc _ (hmem i hi), fun _ => ⟨g, 0, rfl, hg, fun i hi => ?_⟩⟩
    have hx := hget i hi
    simp only [Nat.zero_add]
    refine ⟨?_, ?_, ?_, ?_⟩
    · have := flat4 l i _ hx 0 (by omega); exact hcell (i * 4) _ (by rw [← Nat.add_zero (i * 4), this]; rfl)
    · have := flat4 l i _ hx 1 (by omega); exact hcell (i * 4 + 1) _ (by rw [this]; rfl)
    · have := flat4 l i _ hx 2 (by omega); exact hcell (i * 4 + 2) _ (by rw [this]; rfl)
    · have := flat4 l i _ hx 3 (by omega); exact hcell (i * 4 + 3) _ (by rw [this]; rfl)

/-- Programs of a call's own. -/
noncomputable def Part.progs (v : Value) (n : Nat) (vs : Nat → Value) (Q : Nat → List OpV) : Part :=
  (Part.row 35 1 v n ((List.range n).map vs)).sep (.all n fun i => .ops (vs i) (Q i))

theorem Has.progsAt {v : Value} {vs : Nat → Value} {Q : Nat → List OpV} (h : Has o w0 w (.progs v n vs Q)) (hc : ∀ i, i < n → ∀ x ∈ Q i, -9223372036854775808 ≤ x.c ∧ x.c < 9223372036854775808) :
    ProgsAt w v n (fun i => (Q i).length) vs (fun i k => (Q i).getD k .nil) := by
  obtain ⟨o1, h1, _, _, _⟩ := h.left
  obtain ⟨o2, h2, _, _, _⟩ := h.right
  have h9 : maxLen ≤ 9223372036854775807 := by decide
  obtain ⟨fp, ⟨hr, _⟩, _⟩ := h1
  have hO : ∀ i, i < n → OpsAt w (vs i) (Q i).length (fun k => (Q i).getD k .nil) := fun i hi => by
    obtain ⟨o3, h3, _, _, _⟩ := h2.pick hi
    exact h3.opsAt (hc i hi)
  rcases rowN_val hr with ⟨rfl, h0⟩ | ⟨g, cap, rfl, hnc, hcm, hg, _, hcell⟩
  · exact ⟨none, 0, by rw [h0], by omega, hO, fun hp => by omega⟩
  · refine ⟨_, cap, rfl, by omega, hO, fun _ => ⟨g, 0, rfl, hg, fun i hi => ?_⟩⟩
    rw [Nat.zero_add]
    exact hcell i _ (by rw [List.getElem?_map, List.getElem?_range hi]; rfl)

/-- An append to a row of the call's own, whatever an element's size. -/
theorem Has.appendRowN {w5 : World} {m len size : Nat} {e : TypeId} {v v' : Value} {xs news : List Value} (ob : Obj)
    (h : Has o w0 w (.row e size v len xs)) (happ : Appended (w.alloc ob) w5 e size v v' (len + m) (xs ++ news)) :
    Has o w0 w5 (.row e size v' (len + m) (xs ++ news)) := by
  obtain ⟨fp, ⟨hr, rfl⟩, hn, k⟩ := h
  have k1 : Kept (rowsOf v) w w5 := ((Kept.refl _ w).alloc ob).grown happ.grown fun b _ e => by simp [mem_rowsOf, e]
  refine Has.step hn k ⟨rowsOf v', ⟨happ.row, rfl⟩, ?_, k1⟩
  intro x hx
  rw [mem_rowsOf] at hx ⊢
  rcases happ.place with e | e
  · rw [e] at hx; exact .inl hx
  · rw [e] at hx
    simp only [Option.some.injEq] at hx
    right
    have : (w.alloc ob).heap.size = w.heap.size + 1 := by simp
    omega

theorem Part.Imp.join : ((Part.all n f).sep (f n)).Imp (Part.all (n + 1) f) := by
  rintro w fp ⟨a, b, ⟨F, h, hd, hm⟩, hB, hdis, rfl⟩
  let F' : Nat → List Nat := fun j => if j = n then b else F j
  refine ⟨(List.range (n + 1)).flatMap F', ⟨F', ?_, ?_, fun x => by simp⟩, ?_⟩
  · intro j hj
    by_cases e : j = n
    · subst e; simpa [F'] using hB
    · simp only [F', if_neg e]; exact h j (by omega)
  · intro i j hi hj hne x hx hx'
    by_cases ei : i = n
    · have ej : j ≠ n := by omega
      simp only [F', if_pos ei] at hx
      simp only [F', if_neg ej] at hx'
      exact hdis x ((hm x).2 ⟨j, by omega, hx'⟩) hx
    · simp only [F', if_neg ei] at hx
      by_cases ej : j = n
      · simp only [F', if_pos ej] at hx'
        exact hdis x ((hm x).2 ⟨i, by omega, hx⟩) hx'
      · simp only [F', if_neg ej] at hx'
        exact hd i j (by omega) (by omega) hne x hx hx'
  · intro x hx
    simp only [List.mem_flatMap, List.mem_range] at hx
    obtain ⟨j, hj, hx⟩ := hx
    by_cases e : j = n
    · simp only [F', if_pos e] at hx; simp [hx]
    · simp only [F', if_neg e] at hx
      simp [(hm x).2 ⟨j, by omega, hx⟩]

/-- One more operation. -/
theorem Has.moreOp {w5 : World} {v v' : Value} {l : List OpV} {x : OpV} (ob : Obj) (h : Has o w0 w (.ops v l)) (happ : Appended (w.alloc ob) w5 38 4 v v' (l.length + 1) (l.flatMap OpV.cells ++ x.cells)) :
    Has o w0 w5 (.ops v' (l ++ [x])) := by
  have := Has.appendRowN ob h happ
  unfold Part.ops
  rw [List.length_append, List.flatMap_append, List.flatMap_singleton]
  exact this

/-- One more program. -/
theorem Has.moreProg {w5 : World} {i : Nat} {v v' u : Value} {vs : Nat → Value} {Q : Nat → List OpV} {l : List OpV} (ob : Obj) (h : Has o w0 w ((Part.progs v i vs Q).sep (.ops u l)))
    (happ : Appended (w.alloc ob) w5 35 1 v v' (i + 1) ((List.range i).map vs ++ [u])) : Has o w0 w5 (.progs v' (i + 1) (updF vs i u) (updF Q i l)) := by
  have h1 := h.assoc
  obtain ⟨o2, h2, _, _, b2⟩ := h1.right
  have e1 : ∀ j, j < i → (fun j => Part.ops (updF vs i u j) (updF Q i l j)) j = Part.ops (vs j) (Q j) := fun j hj => by simp [updF, Nat.ne_of_lt hj]
  have e2 : (fun j => Part.ops (updF vs i u j) (updF Q i l j)) i = Part.ops u l := by simp [updF]
  have h3 : Has o2 w w ((Part.all i fun j => Part.ops (updF vs i u j) (updF Q i l j)).sep (Part.ops u l)) := by
    obtain ⟨o3, h4, _, _, b4⟩ := h2.left
    exact b4 _ _ (h4.congr fun j hj => (e1 j hj).symm)
  have h3' : Has o2 w w (Part.all (i + 1) fun j => Part.ops (updF vs i u j) (updF Q i l j)) := by
    refine Has.weaken ?_ Part.Imp.join
    exact Eq.mp (congrArg (fun X => Has o2 w w ((Part.all i fun j => Part.ops (updF vs i u j) (updF Q i l j)).sep X)) e2.symm) h3
  have h5 := b2 _ _ h3'
  obtain ⟨o6, h6, _, _, b6⟩ := h5.left
  have h7 := Has.appendRowN ob h6 happ
  have e3 : (List.range i).map vs ++ [u] = (List.range (i + 1)).map (updF vs i u) := by
    rw [List.range_succ, List.map_append]
    congr 1
    · exact List.map_congr_left fun j hj => by simp [updF, Nat.ne_of_lt (List.mem_range.1 hj)]
    · simp [updF]
  rw [e3] at h7
  exact b6 _ _ h7

theorem Has.nilOps (w : World) : Has [] w w (.ops (.slice none 0 0) []) := ⟨[], ⟨World.ownsRow_nil _ _ _ _, by simp [rowsOf, Value.ownBlock]⟩, by simp, Kept.refl _ _⟩
theorem Has.nilProgs (w : World) (vs : Nat → Value) (Q : Nat → List OpV) : Has [] w w (.progs (.slice none 0 0) 0 vs Q) := by
  have h : Has [] w w (.row 35 1 (.slice none 0 0) 0 []) := ⟨[], ⟨World.ownsRow_nil _ _ _ _, by simp [rowsOf, Value.ownBlock]⟩, by simp, Kept.refl _ _⟩
  exact h.beside (Has.nothing _)
end Go.Proofs.YtfipoadgfebibaaDoor
