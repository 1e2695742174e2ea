/- The walk of wordOf: a key's bytes and how many they are. -/
import Derived.Test.YtpckpgdkfimapaaDoorCellRep
import Derived.Laws.CopyOwn
import Derived.Laws.ResultCell
import Derived.Deep.MidRow
namespace Go.Proofs.YtpckpgdkfimapaaDoor
open Go Go.RowKit
set_option linter.unusedVariables false

/-- The bytes that go over. -/
def textCells (s : ByteArray) (n : Nat) : List Value := (s.data.toList.map fun b => Value.int .u8 b.toNat).take n

theorem run_copy_text {P : Program} (w : World) (dT sT ty elem : TypeId) (b o dLen dCap : Nat) (s : ByteArray) (hu : P.underlying dT = some (.slice elem)) (hs : (P.info? elem).map (·.size) = some 1)
    (hc : ∀ j, j < (textCells s (Nat.min s.size dLen)).length → (w.cell? ⟨b, o + j, none⟩).isSome = true) (hf : ∀ j, j < (textCells s (Nat.min s.size dLen)).length → w.frozen? ⟨b, o + j, none⟩ = false) :
    (Builtin.copy_ #[dT, sT] ty #[.slice (some ⟨b, o, none⟩) dLen dCap, .string s]).run P w = .ok (goInt (Nat.min s.size dLen)) (w.setCells b o (textCells s (Nat.min s.size dLen))) := by
  have hst := run_storeCells_cells (P := P) b o (textCells s (Nat.min s.size dLen)) 0 w (by simpa using hc) (by simpa using hf) (by
    intro v hv
    unfold textCells at hv
    obtain ⟨a, _, rfl⟩ := List.mem_map.1 (List.mem_of_mem_take hv)
    rfl)
  unfold textCells at hst ⊢
  cases hq : P.info? elem with
  | none => simp [hq] at hs
  | some i =>
    have hi : i.size = 1 := by simpa [hq] using hs
    simp [Builtin.copy_, run_underlying hu, Builtin.lenOf, Builtin.firstCells, sizeOf, typeInfo, hq, hst]

theorem wpList_copy_text {P : Program} {w : World} {ops : Array Oper} {rest : List Oper} {o : Oper} {a : Act} {Q : Exit → Act → World → Prop} (hgd : o.guard = none) (d s : Operand) (dT sT : TypeId)
    (ho : o.op = .call { callee := .builtin .copy, args := #[d, s], argTypes := #[dT, sT] }) (elem : TypeId) (hu : P.underlying dT = some (.slice elem)) (hsz : (P.info? elem).map (·.size) = some 1)
    (b off dLen dCap : Nat) (t : ByteArray) (hd : a.eval d = .slice (some ⟨b, off, none⟩) dLen dCap) (hs : a.eval s = .string t)
    (hc : ∀ j, j < (textCells t (Nat.min t.size dLen)).length → (w.cell? ⟨b, off + j, none⟩).isSome = true) (hf : ∀ j, j < (textCells t (Nat.min t.size dLen)).length → w.frozen? ⟨b, off + j, none⟩ = false)
    (h : wpList P ops Q rest (a.put o.dst (goInt (Nat.min t.size dLen))) (w.setCells b off (textCells t (Nat.min t.size dLen)))) : wpList P ops Q (o :: rest) a w := by
  refine wpList_plain hgd fun K hK => ?_
  have hrun := run_copy_text (P := P) w dT sT o.type elem b off dLen dCap t hu hsz hc hf
  unfold Oper.wp
  simp [execOp, ho, resolve, invoke, builtin, hd, hs, hrun, Result.andThen]
  exact hK _ _ h

theorem results_cell {fn : Func} {p : Tmp} {ty : TypeId} {ad : Addr} (h : fn.results = #[.cell p ty]) (tmps : Array Value) (P : Program) (w : World) (hp : tmps.getD p undef = .pointer (some ad)) :
    (results fn tmps).run P w = (loadVar ty ad).run P w := by
  have e : (results fn tmps).run P w = ((asAddr (tmps.getD p undef)).run P w).andThen fun a w₁ => (loadVar ty a).run P w₁ := by
    simp only [results, h]
    simp [Sem.run_bind, Result.andThen]
  rw [e, hp]
  rfl

/-- Seventeen noughts. -/
def nul17 : Array Value := #[.int .u8 0, .int .u8 0, .int .u8 0, .int .u8 0, .int .u8 0, .int .u8 0, .int .u8 0, .int .u8 0, .int .u8 0, .int .u8 0, .int .u8 0, .int .u8 0, .int .u8 0, .int .u8 0, .int .u8 0, .int .u8 0, .int .u8 0]
theorem textCells_len (s : ByteArray) (n : Nat) (h : n ≤ s.size) : (textCells s n).length = n := by
  unfold textCells
  have : s.data.toList.length = s.size := Array.length_toList
  simp; omega

/-- A byte of a key, or nought. -/
def wordAt (s : ByteArray) (i : Nat) : Int := if i < s.size then ((s.data.getD i 0).toNat : Int) else 0
/-- A key: its bytes, noughts behind, and how many they are. -/
def wordV (s : ByteArray) : Value := .agg #[.int .u8 (wordAt s 0), .int .u8 (wordAt s 1), .int .u8 (wordAt s 2), .int .u8 (wordAt s 3), .int .u8 (wordAt s 4), .int .u8 (wordAt s 5), .int .u8 (wordAt s 6), .int .u8 (wordAt s 7), .int .u8 (wordAt s 8), .int .u8 (wordAt s 9), .int .u8 (wordAt s 10), .int .u8 (wordAt s 11), .int .u8 (wordAt s 12), .int .u8 (wordAt s 13), .int .u8 (wordAt s 14), .int .u8 (wordAt s 15), .int .u8 ((s.size : Int) % 256)]

set_option maxHeartbeats 2000000 in
set_option maxRecDepth 100000 in
theorem copied (w : World) (s : ByteArray) (T : TypeId) : ∃ w2, (Builtin.copy_ #[87, 9] 3 #[.slice (some ⟨w.heap.size + 1, 0, none⟩) 16 17, .string s]).run Tryd.prog ((w.alloc (.cells nul17 T)).alloc (.cells nul17 T)) = .ok (goInt (Nat.min s.size 16)) w2 ∧ Kept [] w w2 ∧
    (∀ i, i < 16 → w2.cell? ⟨w.heap.size + 1, i, none⟩ = some (.int .u8 (wordAt s i))) ∧ w2.cell? ⟨w.heap.size + 1, 16, none⟩ = some (.int .u8 0) ∧ (∀ i, i < 17 → w2.cell? ⟨w.heap.size, i, none⟩ = some (.int .u8 0)) ∧
    (∀ i, w2.frozen? ⟨w.heap.size + 1, i, none⟩ = false) ∧ (∀ i, w2.frozen? ⟨w.heap.size, i, none⟩ = false) := by
  have hz : ∀ i, i < 17 → nul17[i]? = some (Value.int .u8 0) := fun i hi => by
    rcases (by omega : i = 0 ∨ i = 1 ∨ i = 2 ∨ i = 3 ∨ i = 4 ∨ i = 5 ∨ i = 6 ∨ i = 7 ∨ i = 8 ∨ i = 9 ∨ i = 10 ∨ i = 11 ∨ i = 12 ∨ i = 13 ∨ i = 14 ∨ i = 15 ∨ i = 16) with rfl | rfl | rfl | rfl | rfl | rfl | rfl | rfl | rfl | rfl | rfl | rfl | rfl | rfl | rfl | rfl | rfl <;> rfl
  have hb0 : Blk (w.alloc (.cells nul17 T)) w.heap.size 17 T (fun _ => .int .u8 0) := Blk.made w nul17 T _ 17 rfl hz
  have hb1 := hb0.alloc (.cells nul17 T)
  have e : (w.alloc (.cells nul17 T)).heap.size = w.heap.size + 1 := by simp
  have hb : Blk ((w.alloc (.cells nul17 T)).alloc (.cells nul17 T)) (w.heap.size + 1) 17 T (fun _ => .int .u8 0) := by
    have := Blk.made (w.alloc (.cells nul17 T)) nul17 T (fun _ => .int .u8 0) 17 rfl hz
    rwa [e] at this
  have hk : Kept [] w ((w.alloc (.cells nul17 T)).alloc (.cells nul17 T)) := ((Kept.refl [] w).alloc _).alloc _
  generalize (w.alloc (.cells nul17 T)).alloc (.cells nul17 T) = W at *
  have hl : (textCells s (Nat.min s.size 16)).length = Nat.min s.size 16 := textCells_len s _ (Nat.min_le_left _ _)
  have hm : Nat.min s.size 16 ≤ 16 := Nat.min_le_right _ _
  have hcs : ∀ j, j < Nat.min s.size 16 → (W.cell? ⟨w.heap.size + 1, 0 + j, none⟩).isSome = true := fun j hj => by rw [Nat.zero_add, hb.cell (by omega)]; rfl
  refine ⟨W.setCells (w.heap.size + 1) 0 (textCells s (Nat.min s.size 16)), run_copy_text _ _ _ _ 5 _ 0 16 17 s Tryd.underlying87 (by kernel_rfl) (fun j hj => hcs j (by rwa [hl] at hj)) (fun j hj => by rw [Nat.zero_add]; exact hb.free _), ?_, fun i hi => ?_, ?_, fun i hi => ?_, fun i => ?_, fun i => ?_⟩
  · have gen : ∀ (vs : List Value) (o : Nat) (w' : World), Kept [] w w' → Kept [] w (w'.setCells (w.heap.size + 1) o vs) := by
      intro vs
      induction vs with
      | nil => intro o w' h; exact h
      | cons v vs ih => intro o w' h; exact ih _ _ (h.setNew v (by show w.heap.size ≤ w.heap.size + 1; omega))
    exact gen _ _ _ hk
  · by_cases h : i < s.size
    · have hin : i < (textCells s (Nat.min s.size 16)).length := by rw [hl]; exact Nat.lt_min.2 ⟨h, hi⟩
      have := World.cell?_setCells_in (w.heap.size + 1) (textCells s (Nat.min s.size 16)) 0 W (fun j hj => hcs j (by rwa [hl] at hj)) i hin
      rw [Nat.zero_add] at this
      rw [this]
      have h2 : i < s.data.size := h
      have e1 : (textCells s (Nat.min s.size 16))[i] = Value.int .u8 (s.data[i].toNat : Int) := by
        have e2 : (textCells s (Nat.min s.size 16))[i]? = some (Value.int .u8 (s.data[i].toNat : Int)) := by
          unfold textCells
          rw [List.getElem?_take_of_lt (Nat.lt_min.2 ⟨h, hi⟩), List.getElem?_map, Array.getElem?_toList, Array.getElem?_eq_getElem h2]
          rfl
        rw [List.getElem?_eq_getElem hin] at e2
        exact Option.some.inj e2
      rw [e1]
      unfold wordAt
      rw [if_pos h, Array.getD_eq_getD_getElem?, Array.getElem?_eq_getElem h2]
      rfl
    · rw [World.cell?_setCells_out _ _ _ _ _ (fun _ _ => .inr (by rw [hl]; exact Nat.le_trans (by rw [Nat.zero_add]; exact Nat.min_le_left _ _) (show s.size ≤ i by omega))), hb.cell (by omega)]
      unfold wordAt; rw [if_neg h]
  · rw [World.cell?_setCells_out _ _ _ _ _ (fun _ _ => .inr (by rw [hl]; show 0 + Nat.min s.size 16 ≤ 16; omega)), hb.cell (by omega)]
  · rw [World.cell?_setCells_out _ _ _ _ _ (fun h _ => by simp at h), hb1.cell (by omega)]
  · rw [World.frozen?_setCells]; exact hb.free i
  · rw [World.frozen?_setCells]; exact hb1.free i

set_option maxHeartbeats 8000000 in
set_option maxRecDepth 100000 in
theorem word_walk (w : World) (s : ByteArray) : Calls Tryd.prog 28 #[.string s] w fun e w' => e = .returned (wordV s) ∧ Kept [] w w' := by
  obtain ⟨w2, hcp, hk, hc, h16, hd, hf1, hf0⟩ := copied w s 60
  unfold nul17 at hcp
  have HK := Lib.hid hk
  have HD := Lib.hid hd
  have a0 := hc 0 (by omega)
  have a1 := hc 1 (by omega)
  have a2 := hc 2 (by omega)
  have a3 := hc 3 (by omega)
  have a4 := hc 4 (by omega)
  have a5 := hc 5 (by omega)
  have a6 := hc 6 (by omega)
  have a7 := hc 7 (by omega)
  have a8 := hc 8 (by omega)
  have a9 := hc 9 (by omega)
  have a10 := hc 10 (by omega)
  have a11 := hc 11 (by omega)
  have a12 := hc 12 (by omega)
  have a13 := hc 13 (by omega)
  have a14 := hc 14 (by omega)
  have a15 := hc 15 (by omega)
  have a16 := h16
  have b0 := hd 0 (by omega)
  have b1 := hd 1 (by omega)
  have b2 := hd 2 (by omega)
  have b3 := hd 3 (by omega)
  have b4 := hd 4 (by omega)
  have b5 := hd 5 (by omega)
  have b6 := hd 6 (by omega)
  have b7 := hd 7 (by omega)
  have b8 := hd 8 (by omega)
  have b9 := hd 9 (by omega)
  have b10 := hd 10 (by omega)
  have b11 := hd 11 (by omega)
  have b12 := hd 12 (by omega)
  have b13 := hd 13 (by omega)
  have b14 := hd 14 (by omega)
  have b15 := hd 15 (by omega)
  have b16 := hd 16 (by omega)
  clear hk hc hd h16
  go_enter Tryd.func28, Tryd.ntmps28
  go_wp2_with fail
  have hth : (w2.setCell ⟨w.heap.size + 1, 16, none⟩ (.int .u8 ((s.size : Int) % 256))).there w.heap.size 0 17 := by
    intro j hj
    rw [World.cell?_setCell_other _ _ _ _ (by simp), World.frozen?_setCell, Nat.zero_add, HD.out j hj]
    exact ⟨rfl, hf0 j⟩
  have hra := World.rangeAt_setCells_same _ _ _ ([.int .u8 (wordAt s 0), .int .u8 (wordAt s 1), .int .u8 (wordAt s 2), .int .u8 (wordAt s 3), .int .u8 (wordAt s 4), .int .u8 (wordAt s 5), .int .u8 (wordAt s 6), .int .u8 (wordAt s 7), .int .u8 (wordAt s 8), .int .u8 (wordAt s 9), .int .u8 (wordAt s 10), .int .u8 (wordAt s 11), .int .u8 (wordAt s 12), .int .u8 (wordAt s 13), .int .u8 (wordAt s 14), .int .u8 (wordAt s 15), .int .u8 ((s.size : Int) % 256)] : List Value) hth
  simp only [World.setCells, Nat.zero_add, Nat.reduceAdd] at hra
  refine bodyPost_ret (v := wordV s) ?_ rfl ?_
  · rw [results_cell (ad := ⟨w.heap.size, 0, none⟩) rfl _ _ _ rfl]
    exact run_loadVar_mid _ w.heap.size 0 60 _ _ hra Tryd.underlying60 rfl (by kernel_rfl)
  · refine ⟨rfl, ?_⟩
    iterate 17 refine Kept.setNew ?_ _ (Nat.le_refl _)
    exact HK.out.setNew _ (Nat.le_succ _)
end Go.Proofs.YtpckpgdkfimapaaDoor
