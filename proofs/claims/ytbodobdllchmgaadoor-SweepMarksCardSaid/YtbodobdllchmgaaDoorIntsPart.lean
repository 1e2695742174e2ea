/- Numbers that a slice owns; appends to an empty slice. Plain lemmas: nothing is claimed of a program here. -/
import Derived.Test.YtbodobdllchmgaaDoorStoreSt
namespace Go.Proofs.YtbodobdllchmgaaDoor
open Go Go.RowKit
set_option linter.unusedVariables false

/-- Numbers that a slice owns. -/
noncomputable def Part.ints (v : Value) (l : List Int) : Part := .row 3 1 v l.length (l.map (Value.int .i64))

theorem Has.nilInts (w : World) : Has [] w w (.ints (.slice none 0 0) []) := ⟨[], ⟨World.ownsRow_nil _ _ _ _, by simp [rowsOf, Value.ownBlock]⟩, by simp, Kept.refl _ _⟩

theorem Has.moreInts0 {o : List Nat} {w0 w w5 : World} {v v' : Value} {l' : List Int} (h : Has o w0 w (.ints v [])) (happ : Appended w w5 3 1 v v' l'.length (l'.map (Value.int .i64))) :
    Has o w0 w5 (.ints v' l') := by
  obtain ⟨fp, ⟨hr, rfl⟩, hn, k⟩ := h
  have k1 : Kept (rowsOf v) w w5 := (Kept.refl _ w).grown happ.grown fun b _ e => by simp [mem_rowsOf, e]
  refine Has.step hn k ⟨rowsOf v', ⟨happ.row, rfl⟩, ?_, k1⟩
  intro x hx
  rw [mem_rowsOf] at hx ⊢
  rcases happ.place with e | e
  · rw [e] at hx; exact .inl hx
  · rw [e] at hx
    simp only [Option.some.injEq] at hx
    right; omega

theorem wpList_append_zero {P : Program} {w : World} {ops : Array Oper} {rest : List Oper} {o : Oper} {a : Act} {Q : Exit → Act → World → Prop} (hgd : o.guard = none) (s x : Operand) (t : TypeId)
    (ho : o.op = .call { callee := .builtin .append, args := #[s, x], argTypes := #[t, t] }) (v u r : Value) (hs : a.eval s = v) (hx : a.eval x = u)
    (hr : (Builtin.append_ #[t, t] o.type #[v, u]).run P w = .ok r w) (h : wpList P ops Q rest (a.put o.dst r) w) : wpList P ops Q (o :: rest) a w := by
  refine wpList_plain hgd fun K hK => ?_
  unfold Oper.wp execOp
  simp only [ho, resolve, invoke, builtin, Sem.run_bind, Sem.run_pure, Result.andThen_ok, List.map_toArray, List.map_cons, List.map_nil, hs, hx, hr]
  exact hK _ _ h

theorem ap_row {o : List Nat} {w0 w : World} {v : Value} {l : List Int} (h : Has o w0 w (Part.ints v l)) : w.ownsRow 0 3 1 v l.length (l.map (Value.int .i64)) := by
  obtain ⟨fp, ⟨hr, _⟩, _⟩ := h; exact hr
theorem ap_ints {o : List Nat} {w0 w : World} {v : Value} {l : List Int} (h : Has o w0 w (Part.ints v l)) : ∃ p c, v = .slice p l.length c := by
  rcases row_val (ap_row h) with ⟨e, h0⟩ | ⟨g, c, e, _⟩
  · exact ⟨none, 0, by rw [h0]; exact e⟩
  · exact ⟨_, c, e⟩


theorem info_int : (Tryd.prog.info? 3).map (fun i => (i.zero, i.size, i.bytes)) = some (some (.int .i64 0), 1, 8) := by kernel_rfl

theorem Has.madeNone (w : World) : Has [] w (w.alloc (.cells #[] 3)) (.ints (.slice (some ⟨w.heap.size, 0, none⟩) 0 0) []) := by
  refine ⟨[w.heap.size], ⟨?_, rfl⟩, by simp, (Kept.refl [] w).alloc _⟩
  exact ⟨rfl, .inr ⟨w.heap.size, 0, #[], rfl, Nat.zero_le _, heap_alloc_new w _, Nat.zero_le _, Nat.zero_le _, rfl, rfl⟩⟩

theorem append_none (g : Addr) (q : Option Addr) (c : Nat) (w : World) : (Builtin.append_ #[22, 22] 22 #[.slice (some g) 0 0, .slice q 0 c]).run Tryd.prog w = .ok (.slice (some g) 0 0) w := by
  cases q <;> kernel_rfl

theorem Has.intsAt {o : List Nat} {w0 w : World} {v : Value} {l : List Int} (h : Has o w0 w (.ints v l)) : RowAt w v l.length (fun k => .int .i64 (l.getD k 0)) := by
  refine h.rowAt _ fun i hi => ?_
  rw [List.getElem?_map, List.getD_eq_getElem?_getD, List.getElem?_eq_getElem hi]; rfl
theorem nats_cells {w : World} {b off m : Nat} {z : Nat → Int} (h : ∀ i, i < m → w.cell? ⟨b, off + i, none⟩ = some (.int .i64 (z i))) : ∀ j u, (((List.range m).map z).map (Value.int .i64))[j]? = some u → w.cell? ((⟨b, off, none⟩ : Addr).add j) = some u := by
  intro j u hu
  have hj : j < m := by have := (List.getElem?_eq_some_iff.1 hu).1; simpa using this
  rw [List.getElem?_map, List.getElem?_map, List.getElem?_range hj] at hu
  simp only [Option.map_some, Option.some.injEq] at hu
  subst hu
  have e : (⟨b, off, none⟩ : Addr).add j = ⟨b, off + j, none⟩ := by
    simp only [Addr.add]
    split
    · rename_i h; subst h; rfl
    · rfl
  rw [e]
  exact h j hj
end Go.Proofs.YtbodobdllchmgaaDoor
