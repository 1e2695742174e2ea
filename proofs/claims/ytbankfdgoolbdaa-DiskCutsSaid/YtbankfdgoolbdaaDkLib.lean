/- The library's functions that a disk calls: maps.Clone, slices.Clone of bytes, slices.Sorted(maps.Keys). -/
import Derived.Test.YtbankfdgoolbdaaDkDir
namespace Go.Proofs.Ytbankfdgoolbdaa
open Go Go.RowKit Go.Lib Go.Shelf Go.Sort Go.Maps Go.Proofs
set_option linter.unusedVariables false
variable {o : List Nat} {w0 w w' w1 w2 w3 : World} {A : Part}

theorem Has.any (h : Has [] w w' A) : Has o w w' A := by
  obtain ⟨fp, hA, hn, k⟩ := h
  exact ⟨fp, hA, fun x hx => .inr ((hn x hx).resolve_left (by simp)), k.mono (by simp)⟩

/-- A row in blocks that the call has laid. -/
theorem has_row {e : TypeId} {size n : Nat} {v : Value} {xs : List Value} (h : w'.ownsRow w.heap.size e size v n xs) (k : Kept [] w w') : Has [] w w' (.row e size v n xs) := by
  obtain ⟨hl, h⟩ := h
  rcases h with h | ⟨g, cap, cur, rfl, hb, r⟩
  · refine ⟨rowsOf v, ⟨⟨hl, .inl h⟩, rfl⟩, ?_, k⟩
    rw [h.1]; simp [rowsOf, Value.ownBlock]
  · exact ⟨rowsOf _, ⟨⟨hl, .inr ⟨g, cap, cur, rfl, Nat.zero_le _, r⟩⟩, rfl⟩, fun x hx => by simp [rowsOf, Value.ownBlock] at hx; subst hx; exact .inr hb, k⟩

theorem clone_walk {b : Nat} {l : List (Nm × Value)} (h : MapAt w b l) :
    Calls Try.prog 36 #[.map (some b)] w fun e w' => e = .returned (.map (some w.heap.size)) ∧ Has [] w w' (.map w.heap.size l) := by
  have hC := AnyW.maps_Clone_owns sh_clone36 9 anyElem b l.length (dmap l) w h
  refine Calls.mono hC ?_
  rintro e w' ⟨rfl, h1, _, hb⟩
  exact ⟨rfl, [w.heap.size], ⟨h1, rfl⟩, by simp, .of_below hb⟩

theorem info_u8 : (Try.prog.info? 5).map (fun i => (i.zero, i.size, i.bytes)) = some (some (.int .u8 0), 1, 1) := by kernel_rfl

/-- A slice of bytes anywhere. -/
structure BytesAt (w : World) (v : Value) (b : List UInt8) : Prop where
  out : ∃ p c, v = .slice p b.length c ∧ b.length ≤ maxLen ∧ (p = none → b.length = 0 ∧ c = 0) ∧ ∀ x, p = some x → x.spot = none ∧ ∀ j u, (bytesV b)[j]? = some u → w.cell? (x.add j) = some u

theorem bytes_clone {v : Value} {b : List UInt8} (h : BytesAt w v b) (hb : b.length ≤ 140737488355328) :
    Calls Try.prog 37 #[v] w fun e w' => ∃ v', e = .returned v' ∧ Has [] w w' (.row 5 1 v' b.length (bytesV b)) := by
  obtain ⟨p, c, rfl, hm, hn, hc⟩ := h.out
  cases p with
  | none =>
    refine Calls.mono (AnyE.slices_Clone_nil sh_clone37 b.length c w) ?_
    rintro e w' ⟨rfl, rfl⟩
    refine ⟨_, rfl, ?_⟩
    have h0 := (hn rfl).1
    rw [show bytesV b = [] by rw [List.eq_nil_iff_length_eq_zero, bytesV_length, h0], h0]
    exact ⟨[], ⟨World.ownsRow_nil _ _ _ _, by simp [rowsOf, Value.ownBlock]⟩, by simp, Kept.refl _ _⟩
  | some x =>
    obtain ⟨hs, hc⟩ := hc x rfl
    obtain ⟨gb, off, sp⟩ := x
    obtain rfl : sp = none := hs
    obtain ⟨i0, hi, he⟩ := Option.map_eq_some_iff.1 info_u8
    obtain ⟨hz0, hz1, hz2⟩ : i0.zero = some (.int .u8 0) ∧ i0.size = 1 ∧ i0.bytes = 1 := by simpa using he
    have hC := AnyE.slices_Clone sh_clone37 i0 (.int .u8 0) 1 1 hi hz0 hz1 hz2 rfl (by decide) (fun w => by kernel_rfl) gb off b.length c (bytesV b) w (by simp [bytesV_length]) hm (by omega) (fun j u hj => by
      have := hc j u hj
      simp only [Addr.add] at this
      split at this
      · rename_i e; subst e; exact this
      · exact this) (fun u hu => by
        unfold bytesV at hu
        obtain ⟨c, _, rfl⟩ := List.mem_map.1 hu
        rfl)
    refine Calls.mono hC ?_
    rintro e w' ⟨v', rfl, h1, _, hb⟩
    exact ⟨v', rfl, has_row h1 (.of_below hb)⟩

theorem sorts38 (m : Nat) : AnyZ.SortsIn Try.prog sh_sorted38_ren Fence.wide m :=
  ⟨fun blk off cap ss W hH hblk hsz => callsIn_wide.2 (AnyM.slices_Sort_string sh_sort55 blk off cap ss W hH hblk hsz),
   fun p cap W => callsIn_wide.2 (AnyM.slices_Sort_string_none sh_sort55 p cap W)⟩

end Go.Proofs.Ytbankfdgoolbdaa
