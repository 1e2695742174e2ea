/- Maps of strings of a call's own, as sorted lists of names and values; a map as a part. Plain lemmas and the maps' laws at this program's numbers. -/
import Derived.Test.YtbankfdgoolbdaaRowN
import Derived.Test.YtbankfdgoolbdaaProg
import Derived.Maps.RangeWalk
import Derived.Maps.OwnOps
import Derived.StringKeys
namespace Go.Proofs.Ytbankfdgoolbdaa
open Go Go.RowKit Go.Maps Go.WideMaps
set_option linter.unusedVariables false

abbrev Nm := List UInt8

section
variable {α β : Type}

/-- What stands under a name. -/
def alFind (l : List (Nm × α)) (s : Nm) : Option α := (l.find? fun p => p.1 == s).map (·.2)
def alIns (x : Nm × α) : List (Nm × α) → List (Nm × α)
  | [] => [x]
  | y :: r => if bytesBefore x.1 y.1 then x :: y :: r else y :: alIns x r
def alDel (l : List (Nm × α)) (s : Nm) : List (Nm × α) := l.filter fun p => !(p.1 == s)
def alPut (l : List (Nm × α)) (s : Nm) (v : α) : List (Nm × α) := alIns (s, v) (alDel l s)

def alMap (f : α → β) (l : List (Nm × α)) : List (Nm × β) := l.map fun p => (p.1, f p.2)

theorem alMap_find (f : α → β) (l : List (Nm × α)) (s : Nm) : alFind (alMap f l) s = (alFind l s).map f := by
  unfold alFind alMap
  induction l with
  | nil => rfl
  | cons x r ih =>
    simp only [List.map_cons, List.find?_cons]
    cases h : x.1 == s with
    | true => rfl
    | false => exact ih
theorem alMap_ins (f : α → β) (x : Nm × α) (l : List (Nm × α)) : alMap f (alIns x l) = alIns (x.1, f x.2) (alMap f l) := by
  induction l with
  | nil => rfl
  | cons y r ih =>
    show alMap f (if bytesBefore x.1 y.1 then x :: y :: r else y :: alIns x r) = (if bytesBefore x.1 y.1 then (x.1, f x.2) :: (y.1, f y.2) :: alMap f r else (y.1, f y.2) :: alIns (x.1, f x.2) (alMap f r))
    split
    · rfl
    · rw [← ih]; rfl
theorem alMap_del (f : α → β) (l : List (Nm × α)) (s : Nm) : alMap f (alDel l s) = alDel (alMap f l) s := by
  unfold alMap alDel
  rw [List.filter_map]
  rfl
theorem alMap_put (f : α → β) (l : List (Nm × α)) (s : Nm) (v : α) : alMap f (alPut l s v) = alPut (alMap f l) s (f v) := by
  unfold alPut
  rw [alMap_ins, alMap_del]
theorem alMap_length (f : α → β) (l : List (Nm × α)) : (alMap f l).length = l.length := by simp [alMap]
theorem alMap_congr {f g : α → β} {l : List (Nm × α)} (h : ∀ p ∈ l, f p.2 = g p.2) : alMap f l = alMap g l := by
  unfold alMap
  exact List.map_congr_left fun p hp => by rw [h p hp]

theorem alIns_length (x : Nm × α) (l : List (Nm × α)) : (alIns x l).length = l.length + 1 := by
  induction l with
  | nil => rfl
  | cons y r ih => unfold alIns; split <;> simp [ih]
theorem alDel_length (l : List (Nm × α)) (s : Nm) : (alDel l s).length ≤ l.length := List.length_filter_le _ _
theorem alPut_length (l : List (Nm × α)) (s : Nm) (v : α) : (alPut l s v).length ≤ l.length + 1 := by
  unfold alPut
  rw [alIns_length]
  have := alDel_length l s
  omega
theorem mem_alIns {x y : Nm × α} {l : List (Nm × α)} : y ∈ alIns x l ↔ y = x ∨ y ∈ l := by
  induction l with
  | nil => simp [alIns]
  | cons z r ih =>
    unfold alIns
    split
    · simp
    · simp only [List.mem_cons, ih]
      constructor
      · rintro (h | h | h)
        · exact .inr (.inl h)
        · exact .inl h
        · exact .inr (.inr h)
      · rintro (h | h | h)
        · exact .inr (.inl h)
        · exact .inl h
        · exact .inr (.inr h)
theorem mem_alPut {s : Nm} {v : α} {y : Nm × α} {l : List (Nm × α)} : y ∈ alPut l s v ↔ y = (s, v) ∨ (y ∈ l ∧ y.1 ≠ s) := by
  unfold alPut alDel
  rw [mem_alIns, List.mem_filter]
  simp
theorem alFind_mem {l : List (Nm × α)} {s : Nm} {v : α} (h : alFind l s = some v) : (s, v) ∈ l := by
  unfold alFind at h
  cases h1 : l.find? (fun p => p.1 == s) with
  | none => rw [h1] at h; cases h
  | some p =>
    rw [h1] at h
    simp only [Option.map_some, Option.some.injEq] at h
    have h2 := List.find?_some h1
    have h3 := List.mem_of_find?_eq_some h1
    simp only [beq_iff_eq] at h2
    obtain ⟨a, b⟩ := p
    simp only at h h2
    rw [← h, ← h2]
    exact h3
end

/-! ### a map in memory -/
def anyElem (v : Value) : Option (DataW Value × List MemPlace) := some (.held v, [])
def dmapL (l : List (Nm × Value)) : List (Lit × DataW Value) := l.map fun p => (Lit.string p.1, DataW.held p.2)
def dmap (l : List (Nm × Value)) : DataW Value := .map (dmapL l)

theorem sameKey_str (a b : Nm) : (Lit.string a).sameKey (.string b) = (a == b) := rfl

theorem dmap_at (l : List (Nm × Value)) (s : Nm) (z : DataW Value) : (dmap l).atKey (.string s) z = ((alFind l s).map DataW.held).getD z := by
  show DataW.atKey (.map (dmapL l)) (.string s) z = _
  unfold DataW.atKey alFind dmapL
  induction l with
  | nil => rfl
  | cons x r ih =>
    simp only [List.map_cons, List.find?_cons, sameKey_str]
    cases h : x.1 == s with
    | true => rfl
    | false => exact ih
theorem dmap_ins (x : Nm × Value) (l : List (Nm × Value)) : DataW.insert (Lit.string x.1, DataW.held x.2) (dmapL l) = dmapL (alIns x l) := by
  induction l with
  | nil => rfl
  | cons y r ih =>
    show (if bytesBefore x.1 y.1 then _ else _) = dmapL (if bytesBefore x.1 y.1 then _ else _)
    split
    · rfl
    · rw [show dmapL (y :: alIns x r) = (Lit.string y.1, DataW.held y.2) :: dmapL (alIns x r) from rfl, ← ih]; rfl
theorem dmap_filter (l : List (Nm × Value)) (s : Nm) : (dmapL l).filter (fun p => !p.1.sameKey (.string s)) = dmapL (alDel l s) := by
  unfold dmapL alDel
  rw [List.filter_map]
  rfl
theorem dmap_put (l : List (Nm × Value)) (s : Nm) (v : Value) : (dmap l).put (.string s) (.held v) = dmap (alPut l s v) := by
  show DataW.map (DataW.insert (.string s, .held v) ((dmapL l).filter fun p => !p.1.sameKey (.string s))) = _
  rw [dmap_filter, dmap_ins (s, v)]
  rfl
theorem dmap_del (l : List (Nm × Value)) (s : Nm) : (dmap l).del (.string s) = dmap (alDel l s) := by
  show DataW.map ((dmapL l).filter fun p => !p.1.sameKey (.string s)) = _
  rw [dmap_filter]
  rfl
theorem dmap_size (l : List (Nm × Value)) : Maps.size (dmap l) = l.length := by simp [dmap, dmapL, Maps.size]

/-- Block b is a map of strings that holds l. -/
def MapAt (w : World) (b : Nat) (l : List (Nm × Value)) : Prop := w.ownsMap Try.prog 9 anyElem b l.length (dmap l)

theorem mapAt_of {w : World} {b n : Nat} {l : List (Nm × Value)} (h : w.ownsMap Try.prog 9 anyElem b n (dmap l)) : MapAt w b l := by
  obtain ⟨es, clock, hb, F, hs, hD⟩ := h
  refine ⟨es, clock, hb, F, ?_, hD⟩
  have : dmapL l = (es.toList.map (WideElems.rg Try.prog 9 anyElem)).foldr DataW.insert [] := by
    have := hD
    simp only [dmap, DataW.map.injEq] at this
    exact this
  have e : l.length = es.size := by
    have h1 : (dmapL l).length = l.length := by simp [dmapL]
    rw [← h1, this, length_sorted]
    simp
  omega

theorem MapAt.lt {w : World} {b : Nat} {l : List (Nm × Value)} (h : MapAt w b l) : b < w.heap.size := World.ownsMap.lt h

theorem MapAt.of_heap {w w' : World} {b : Nat} {l : List (Nm × Value)} (h : MapAt w b l) (e : w'.heap[b]? = w.heap[b]?) : MapAt w' b l := by
  obtain ⟨es, clock, hb, F, hs, hD⟩ := h
  exact ⟨es, clock, by rw [e, hb], F, hs, hD⟩

/-- A map as a part. -/
def Part.map (b : Nat) (l : List (Nm × Value)) : Part where
  at_ w fp := MapAt w b l ∧ fp = [b]
  lt := by rintro w fp ⟨h, rfl⟩ x hx; simp at hx; subst hx; exact h.lt
  kept := by rintro own w w' fp ⟨h, rfl⟩ k hn; exact ⟨h.of_heap (k.block b h.lt (hn b (by simp))), rfl⟩

variable {o : List Nat} {w0 w w' : World} {b : Nat} {l : List (Nm × Value)}

theorem Has.mapAt (h : Has o w0 w (.map b l)) : MapAt w b l := by
  obtain ⟨fp, ⟨hm, _⟩, _⟩ := h
  exact hm

theorem strKeyed : Keyed Try.prog 9 := string_keyed Try.underlying9
theorem zeroPtr (w : World) : (zeroValue 69).run Try.prog w = .ok (.pointer none) w := by kernel_rfl

/-- What a look-up answers. -/
theorem MapAt.look (h : MapAt w b l) (s : ByteArray) (hs : s.size ≤ maxLen) :
    (Instr.lookup 60 (.map (some b)) (.string s) false).run Try.prog w = .ok ((alFind l s.data.toList).getD (.pointer none)) w := by
  obtain ⟨v, ps, hrun, hv⟩ := World.ownsMap.lookup h strKeyed Try.underlying60 (zeroPtr w) (zd := .held (.pointer none)) (zp := []) rfl (keyOf_string_mk Try.underlying9 hs)
  rw [hrun]
  rw [dmap_at] at hv
  unfold anyElem at hv
  simp only [Option.some.injEq, Prod.mk.injEq] at hv
  cases h1 : alFind l s.data.toList with
  | none => rw [h1] at hv; have := hv.1; simp at this; rw [this]; rfl
  | some u => rw [h1] at hv; have := hv.1; simp at this; rw [this]; rfl

theorem MapAt.len (h : MapAt w b l) (ty : TypeId) : (Builtin.len_ #[60] ty #[.map (some b)]).run Try.prog w = .ok (.int .i64 l.length) w := by
  rw [World.ownsMap.len h Try.underlying60 ty, dmap_size]

theorem kept_grown {b : Nat} (g : w.grownBy w' (some b)) : Kept [b] w w' :=
  ⟨g.os, g.tape, g.output, g.size, fun k hk hn => g.block k hk fun e => hn (by cases e; simp)⟩

theorem Has.mapStore (h : Has o w0 w (.map b l)) (s : ByteArray) (hs : s.size ≤ maxLen) (hn : l.length < maxLen) (v : Value) :
    ∃ w', (Instr.mapUpdate 60 (.map (some b)) (.string s) v).run Try.prog w = .ok () w' ∧ Has o w0 w' (.map b (alPut l s.data.toList v)) ∧ Kept [b] w w' := by
  obtain ⟨fp, ⟨hm, rfl⟩, hn', k⟩ := h
  obtain ⟨w', hrun, h1, h2⟩ := World.ownsMap.store hm strKeyed Try.underlying60 hn (keyOf_string_mk Try.underlying9 hs) (val := v) rfl
  rw [dmap_put] at h1
  have k' := kept_grown h2.grown
  exact ⟨w', hrun, Has.step hn' k ⟨[b], ⟨mapAt_of h1, rfl⟩, fun x hx => .inl hx, k'⟩, k'⟩

theorem Has.mapDrop (h : Has o w0 w (.map b l)) (s : ByteArray) (hs : s.size ≤ maxLen) (ty : TypeId) :
    ∃ w', (Builtin.delete_ #[60, 9] ty #[.map (some b), .string s]).run Try.prog w = .ok (.tuple #[]) w' ∧ Has o w0 w' (.map b (alDel l s.data.toList)) ∧ Kept [b] w w' := by
  obtain ⟨fp, ⟨hm, rfl⟩, hn', k⟩ := h
  obtain ⟨w', hrun, h1, h2⟩ := World.ownsMap.drop hm strKeyed Try.underlying60 (keyOf_string_mk Try.underlying9 hs) ty
  rw [dmap_del] at h1
  have k' := kept_grown h2.grown
  exact ⟨w', hrun, Has.step hn' k ⟨[b], ⟨mapAt_of h1, rfl⟩, fun x hx => .inl hx, k'⟩, k'⟩

theorem Has.madeMap (w : World) : Has [] w (w.alloc (.map #[] 0)) (.map w.heap.size []) :=
  ⟨[w.heap.size], ⟨World.ownsMap_made w _ _ _, rfl⟩, by simp, (Kept.refl [] w).alloc _⟩

end Go.Proofs.Ytbankfdgoolbdaa
