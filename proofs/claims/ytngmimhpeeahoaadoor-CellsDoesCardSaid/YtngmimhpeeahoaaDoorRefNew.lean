/- The walk of the reference's Alloc where it takes a new cell, or none. -/
import Derived.Test.YtngmimhpeeahoaaDoorRefAlloc
namespace Go.Proofs.YtngmimhpeeahoaaDoor
open Go Go.RowKit
set_option linter.unusedVariables false

/-- What Alloc of a new cell leaves. -/
def RNew (w : World) (b : Nat) (hv tv : Value) (size : Int) (hs : List Int) (ts : List Bool) (many : Int) (w' : World) : Prop :=
  ∃ hv' tv', RfRep w' b hv' tv' size (hs ++ [0]) (ts ++ [true]) many ∧ Kept (b :: (rowsOf hv ++ rowsOf tv)) w w' ∧ (∀ k, hv'.ownBlock = some k → hv.ownBlock = some k ∨ w.heap.size ≤ k) ∧ (∀ k, tv'.ownBlock = some k → tv.ownBlock = some k ∨ w.heap.size ≤ k)

set_option maxHeartbeats 4000000 in
set_option maxRecDepth 100000 in
theorem ralloc_new {w : World} {b : Nat} {hv : Value} {size : Int} {hs : List Int} {ts : List Bool} {many : Int} (n : Nat) (g cap : Nat) (hl : n = ts.length) (hfull : ∀ i, i < n → ts.getD i false = true) (hsz : (n : Int) < size ∧ size ≤ 65536)
    (hr : RfRep w b hv (.slice (some ⟨g, 0, none⟩) n cap) size hs ts many) :
    Calls Tryd.prog 26 #[.pointer (some ⟨b, 0, none⟩)] w fun e w' => e = .returned (.tuple #[.int .i64 n, .int .i64 0]) ∧ RNew w b hv (.slice (some ⟨g, 0, none⟩) n cap) size hs ts many w' := by
  have HF := Lib.hid hfull
  have HR := Lib.hid hr
  obtain ⟨hsz1, hsz2⟩ := hsz
  have c0 := hr.c0
  have c1 := hr.c1
  have c2 := hr.c2
  have fb := hr.blk.free
  have HL := Lib.hid hl
  have HLT := Lib.hid hr.blk.lt
  have HTR := Lib.hid (hr.trow.alloc (.cells #[.bool true] 4))
  obtain ⟨i0, hi, hz0, hz1, hz2⟩ := info_parts info_u64r
  obtain ⟨j0, hj, hy0, hy1, hy2⟩ := info_parts info_bool
  have ht : ∀ i, i < n → w.cell? ⟨g, i, none⟩ = some (.bool true) := by
    intro i hi
    obtain ⟨_, h1 | ⟨g', cap', cur, hv', _⟩⟩ := hr.trow
    · cases h1.1
    · cases hv'
      have := hr.trow.cells (g := g) rfl i (.bool true) (by
        rw [List.getElem?_map, List.getElem?_eq_getElem (by omega)]
        have := hfull i hi
        rw [List.getD_eq_getElem?_getD, List.getElem?_eq_getElem (by omega)] at this
        simpa using this)
      simp only [Addr.add] at this
      split at this
      · rename_i e0; subst e0; simpa using this
      · simpa using this
  have HC := Lib.hid ht
  clear ht
  clear hr hfull hl
  go_enter Tryd.func26, Tryd.ntmps26
  go_wp2
  go_loopg [4] (n + 1) (fun k iv wr => ∃ i : Nat, i ≤ n ∧ k = n + 1 - i ∧ iv = .int .i64 i ∧ wr = w)
  case atStart => exact ⟨0, Nat.zero_le _, by omega, rfl, rfl⟩
  case round =>
    obtain ⟨i, hin, hk, rfl, rfl⟩ := hrel
    have HKK := Lib.hid hk
    clear hk
    by_cases him : i < n
    · have hdl : decide (i < n) = true := by simpa using him
      have hci := HC.out i him
      go_wp2
      go_roundg (n + 1 - (i + 1))
      case measure => rw [HKK.out]; omega
      case rel => exact ⟨i + 1, by omega, rfl, by go_num, rfl⟩
    · obtain rfl : i = n := by omega
      have hdl : decide (i < i) = false := by simp
      have hd1 : decide ((i : Int) ≥ size) = false := by simp; omega
      have hd2 : ((i : Int) == (i : Int)) = true := by simp
      have hfw : hs.length + 1 ≤ 65536 := by have := HR.out.len; have := HL.out; omega
      go_wp2_with (at_builtin; refine wpList_append_new rfl (.tmp 40) (.tmp 41) 55 rfl 4 j0 (.bool false) 1 1 Tryd.underlying55 hj hy0 hy1 hy2 rfl (by decide) _ _ _ rfl HTR.out ⟨_, 0, none⟩ 1 1 [.bool true] rfl rfl ?c1 ?c2 ?c3 ?c4 ?_)
      try (case c1 => (exact cell_one _ _ _ _ (by simp)))
      try (case c2 => (simp [Value.oneCell']))
      try (case c3 => (rw [← HL.out]; simp only [maxLen]; omega))
      try (case c4 => (rw [← HL.out]; omega))
      intro tv' w1 happ
      have HA := Lib.hid happ
      obtain ⟨g', cap', rfl, hd3, hd4, hd5, hd6, hd7⟩ := row_out happ.row (by omega)
      have e1 : w1.heap[b]? = (wr.alloc (.cells #[.bool true] 4)).heap[b]? := happ.grown.block b (HR.out.alloc _).blk.lt (fun e => (HR.out.tne e.symm))
      have hblk1 := (HR.out.alloc (.cells #[.bool true] 4)).blk.of_heap e1
      have x2 := hblk1.cell (i := 2) (by omega)
      have x1 := hblk1.cell (i := 1) (by omega)
      have xf := hblk1.free
      have x1 : w1.cell? ⟨b, 1, none⟩ = some hv := x1
      have HD := Lib.hid (And.intro hd3 (And.intro hd4 (And.intro hd6 hd7)))
      have hrow1 : w1.ownsRow 0 30 1 hv hs.length (hs.map (Value.int .u64)) := by
        refine (HR.out.alloc (.cells #[.bool true] 4)).hrow.kept happ.grown ?_
        cases hho : hv.ownBlock with
        | none => exact .inl rfl
        | some k => exact .inr fun e => HR.out.apart k hho e.symm
      have HRW := Lib.hid ((row_other hrow1 (a := ⟨b, 2, none⟩) (.slice (some ⟨g', 0, none⟩) (ts.length + 1) cap') HR.out.hne).alloc (.cells #[.int .u64 0] 30))
      clear happ hblk1 e1 hd3 hd4 hd6 hd7 hrow1
      go_wp2_with (at_builtin; refine wpList_append_new rfl (.tmp 49) (.tmp 50) 22 rfl 30 i0 (.int .u64 0) 1 8 Tryd.underlying22 hi hz0 hz1 hz2 rfl (by decide) _ _ _ rfl HRW.out ⟨_, 0, none⟩ 1 1 [.int .u64 0] rfl rfl ?d1 ?d2 ?d3 ?d4 ?_)
      try (case d1 => (exact cell_one _ _ _ _ (by simp)))
      try (case d2 => (simp [Value.oneCell']))
      try (case d3 => (simp only [maxLen]; omega))
      try (case d4 => (omega))
      intro hv' w2 happ2
      obtain ⟨h', cap2, rfl, he3, he4, he5, he6, he7⟩ := row_out happ2.row (by omega)
      obtain ⟨y1, y2, y3, y4, y5, y6, y7, y8, y9, y10, y11⟩ := ralloc_done HR.out rfl HA.out rfl happ2 hfw
      have hgb : g' ≠ b := fun e => y1.tne (by simp [Value.ownBlock, e])
      have hhb : h' ≠ b := fun e => y1.hne (by simp [Value.ownBlock, e])
      have hgh : h' ≠ g' := fun e => y1.apart h' rfl (by simp [Value.ownBlock, e])
      have hti : i = ts.length := HL.out
      have hhi : i = hs.length := by rw [hti, HR.out.len]
      obtain ⟨z1, z2, z3⟩ : w2.cell? ⟨g', i, none⟩ = some (.bool true) ∧ (∀ j, w2.frozen? ⟨g', j, none⟩ = false) ∧ w2.cell? ⟨h', i, none⟩ = some (.int .u64 0) := by
        rcases row_val y1.trow with ⟨h1, _⟩ | ⟨g2, c2', h1, _, _, _, hfr, hcl⟩
        · cases h1
        · simp only [Value.slice.injEq, Option.some.injEq, Addr.mk.injEq] at h1
          obtain ⟨⟨rfl, _⟩, _⟩ := h1
          have a1 := hcl i (.bool true) (by rw [hti]; simp)
          rw [World.cell?_of_block (w := w2) (Below.heap_setCell w2 ⟨b, 1, none⟩ _ g' hgb)] at a1
          exact ⟨a1, fun j => by simpa using hfr j, he7 i _ (by rw [hhi]; simp)⟩
      have hil : i < ts.length + 1 := by omega
      have hih : i < hs.length + 1 := by omega
      have YY := Lib.hid (And.intro y1 (And.intro y2 (And.intro y3 y4)))
      have HI := Lib.hid (And.intro hti hhi)
      have hcp : ts.length + 1 ≤ 65536 := by omega
      clear happ2 y1 y2 y3 y4 y5 y6 y7 y11 he7 hti hhi x1 x2 xf hd5 he5
      have hin1 : 0 ≤ (i : Int) := by omega
      go_wp2
      go_ret2
      refine ⟨by first | rfl | (simp; done), _, _, ?_, ?_, YY.out.2.2.1, YY.out.2.2.2⟩
      · have q1 := (YY.out.1.putTaken i true (by simp; omega)).putHas i 0 (by simp; omega)
        have e1 : (ts ++ [true]).set i true = ts ++ [true] := by rw [HI.out.1]; simp
        have e2 : (hs ++ [0]).set i 0 = hs ++ [0] := by rw [HI.out.2]; simp
        rw [e1, e2] at q1
        exact q1
      · have mem : ∀ k, (k = g' ∨ k = h') → k ∈ (b :: (rowsOf hv ++ rowsOf (.slice (some ⟨g, 0, none⟩) i cap))) ∨ wr.heap.size ≤ k := by
          rintro k (rfl | rfl)
          · rcases YY.out.2.2.2 _ rfl with h | h
            · exact .inl (by simp [mem_rowsOf, h])
            · exact .inr h
          · rcases YY.out.2.2.1 _ rfl with h | h
            · exact .inl (by simp [mem_rowsOf, h])
            · exact .inr h
        have step : ∀ {w' : World} {k j : Nat} (u : Value), Kept (b :: (rowsOf hv ++ rowsOf (.slice (some ⟨g, 0, none⟩) i cap))) wr w' → (k = g' ∨ k = h') → Kept (b :: (rowsOf hv ++ rowsOf (.slice (some ⟨g, 0, none⟩) i cap))) wr (w'.setCell ⟨k, j, none⟩ u) := by
          intro w' k j u hk hm
          rcases mem k hm with h | h
          · exact hk.set _ h
          · exact hk.setNew _ h
        exact step _ (step _ YY.out.2.1 (.inl rfl)) (.inr rfl)

set_option maxHeartbeats 4000000 in
set_option maxRecDepth 100000 in
theorem ralloc_new0 {w : World} {b : Nat} {hv : Value} {size : Int} {hs : List Int} {ts : List Bool} {many : Int} (n : Nat) (hn0 : n = 0) (hl : n = ts.length) (hfull : ∀ i, i < n → ts.getD i false = true) (hsz : (n : Int) < size ∧ size ≤ 65536)
    (hr : RfRep w b hv (.slice none 0 0) size hs ts many) :
    Calls Tryd.prog 26 #[.pointer (some ⟨b, 0, none⟩)] w fun e w' => e = .returned (.tuple #[.int .i64 n, .int .i64 0]) ∧ RNew w b hv (.slice none 0 0) size hs ts many w' := by
  have HF := Lib.hid hfull
  have HR := Lib.hid hr
  obtain ⟨hsz1, hsz2⟩ := hsz
  have c0 := hr.c0
  have c1 := hr.c1
  have c2 := hr.c2
  have fb := hr.blk.free
  have HL := Lib.hid hl
  have HLT := Lib.hid hr.blk.lt
  have HTR := Lib.hid (hr.trow.alloc (.cells #[.bool true] 4))
  obtain ⟨i0, hi, hz0, hz1, hz2⟩ := info_parts info_u64r
  obtain ⟨j0, hj, hy0, hy1, hy2⟩ := info_parts info_bool
  have HN0 := Lib.hid hn0
  clear hn0
  clear hr hfull hl
  go_enter Tryd.func26, Tryd.ntmps26
  go_wp2
  go_loopg [4] (n + 1) (fun k iv wr => ∃ i : Nat, i ≤ n ∧ k = n + 1 - i ∧ iv = .int .i64 i ∧ wr = w)
  case atStart => exact ⟨0, Nat.zero_le _, by omega, rfl, rfl⟩
  case round =>
    obtain ⟨i, hin, hk, rfl, rfl⟩ := hrel
    have HKK := Lib.hid hk
    clear hk
    by_cases him : i < n
    · have := HN0.out; omega
    · obtain rfl : i = n := by omega
      have hdl : decide (i < 0) = false := by simp
      have hd9 : ((i : Int) == 0) = true := by have := HN0.out; simp; omega
      have hd1 : decide ((i : Int) ≥ size) = false := by simp; omega
      have hd2 : ((i : Int) == (i : Int)) = true := by simp
      have hfw : hs.length + 1 ≤ 65536 := by have := HR.out.len; have := HL.out; omega
      go_wp2_with (at_builtin; refine wpList_append_new rfl (.tmp 40) (.tmp 41) 55 rfl 4 j0 (.bool false) 1 1 Tryd.underlying55 hj hy0 hy1 hy2 rfl (by decide) _ _ _ rfl HTR.out ⟨_, 0, none⟩ 1 1 [.bool true] rfl rfl ?c1 ?c2 ?c3 ?c4 ?_)
      try (case c1 => (exact cell_one _ _ _ _ (by simp)))
      try (case c2 => (simp [Value.oneCell']))
      try (case c3 => (rw [← HL.out]; simp only [maxLen]; omega))
      try (case c4 => (rw [← HL.out]; omega))
      intro tv' w1 happ
      have HA := Lib.hid happ
      obtain ⟨g', cap', rfl, hd3, hd4, hd5, hd6, hd7⟩ := row_out happ.row (by omega)
      have e1 : w1.heap[b]? = (wr.alloc (.cells #[.bool true] 4)).heap[b]? := happ.grown.block b (HR.out.alloc _).blk.lt (fun e => (HR.out.tne e.symm))
      have hblk1 := (HR.out.alloc (.cells #[.bool true] 4)).blk.of_heap e1
      have x2 := hblk1.cell (i := 2) (by omega)
      have x1 := hblk1.cell (i := 1) (by omega)
      have xf := hblk1.free
      have x1 : w1.cell? ⟨b, 1, none⟩ = some hv := x1
      have HD := Lib.hid (And.intro hd3 (And.intro hd4 (And.intro hd6 hd7)))
      have hrow1 : w1.ownsRow 0 30 1 hv hs.length (hs.map (Value.int .u64)) := by
        refine (HR.out.alloc (.cells #[.bool true] 4)).hrow.kept happ.grown ?_
        cases hho : hv.ownBlock with
        | none => exact .inl rfl
        | some k => exact .inr fun e => HR.out.apart k hho e.symm
      have HRW := Lib.hid ((row_other hrow1 (a := ⟨b, 2, none⟩) (.slice (some ⟨g', 0, none⟩) (ts.length + 1) cap') HR.out.hne).alloc (.cells #[.int .u64 0] 30))
      clear happ hblk1 e1 hd3 hd4 hd6 hd7 hrow1
      go_wp2_with (at_builtin; refine wpList_append_new rfl (.tmp 49) (.tmp 50) 22 rfl 30 i0 (.int .u64 0) 1 8 Tryd.underlying22 hi hz0 hz1 hz2 rfl (by decide) _ _ _ rfl HRW.out ⟨_, 0, none⟩ 1 1 [.int .u64 0] rfl rfl ?d1 ?d2 ?d3 ?d4 ?_)
      try (case d1 => (exact cell_one _ _ _ _ (by simp)))
      try (case d2 => (simp [Value.oneCell']))
      try (case d3 => (simp only [maxLen]; omega))
      try (case d4 => (omega))
      intro hv' w2 happ2
      obtain ⟨h', cap2, rfl, he3, he4, he5, he6, he7⟩ := row_out happ2.row (by omega)
      obtain ⟨y1, y2, y3, y4, y5, y6, y7, y8, y9, y10, y11⟩ := ralloc_done HR.out rfl HA.out rfl happ2 hfw
      have hgb : g' ≠ b := fun e => y1.tne (by simp [Value.ownBlock, e])
      have hhb : h' ≠ b := fun e => y1.hne (by simp [Value.ownBlock, e])
      have hgh : h' ≠ g' := fun e => y1.apart h' rfl (by simp [Value.ownBlock, e])
      have hti : i = ts.length := HL.out
      have hhi : i = hs.length := by rw [hti, HR.out.len]
      obtain ⟨z1, z2, z3⟩ : w2.cell? ⟨g', i, none⟩ = some (.bool true) ∧ (∀ j, w2.frozen? ⟨g', j, none⟩ = false) ∧ w2.cell? ⟨h', i, none⟩ = some (.int .u64 0) := by
        rcases row_val y1.trow with ⟨h1, _⟩ | ⟨g2, c2', h1, _, _, _, hfr, hcl⟩
        · cases h1
        · simp only [Value.slice.injEq, Option.some.injEq, Addr.mk.injEq] at h1
          obtain ⟨⟨rfl, _⟩, _⟩ := h1
          have a1 := hcl i (.bool true) (by rw [hti]; simp)
          rw [World.cell?_of_block (w := w2) (Below.heap_setCell w2 ⟨b, 1, none⟩ _ g' hgb)] at a1
          exact ⟨a1, fun j => by simpa using hfr j, he7 i _ (by rw [hhi]; simp)⟩
      have hil : i < ts.length + 1 := by omega
      have hih : i < hs.length + 1 := by omega
      have YY := Lib.hid (And.intro y1 (And.intro y2 (And.intro y3 y4)))
      have HI := Lib.hid (And.intro hti hhi)
      have hcp : ts.length + 1 ≤ 65536 := by omega
      clear happ2 y1 y2 y3 y4 y5 y6 y7 y11 he7 hti hhi x1 x2 xf hd5 he5
      have hin1 : 0 ≤ (i : Int) := by omega
      go_wp2
      go_ret2
      refine ⟨by first | rfl | (simp; done), _, _, ?_, ?_, YY.out.2.2.1, YY.out.2.2.2⟩
      · have q1 := (YY.out.1.putTaken i true (by simp; omega)).putHas i 0 (by simp; omega)
        have e1 : (ts ++ [true]).set i true = ts ++ [true] := by rw [HI.out.1]; simp
        have e2 : (hs ++ [0]).set i 0 = hs ++ [0] := by rw [HI.out.2]; simp
        rw [e1, e2] at q1
        exact q1
      · have mem : ∀ k, (k = g' ∨ k = h') → k ∈ (b :: (rowsOf hv ++ rowsOf (.slice none 0 0))) ∨ wr.heap.size ≤ k := by
          rintro k (rfl | rfl)
          · rcases YY.out.2.2.2 _ rfl with h | h
            · exact .inl (by simp [mem_rowsOf, h])
            · exact .inr h
          · rcases YY.out.2.2.1 _ rfl with h | h
            · exact .inl (by simp [mem_rowsOf, h])
            · exact .inr h
        have step : ∀ {w' : World} {k j : Nat} (u : Value), Kept (b :: (rowsOf hv ++ rowsOf (.slice none 0 0))) wr w' → (k = g' ∨ k = h') → Kept (b :: (rowsOf hv ++ rowsOf (.slice none 0 0))) wr (w'.setCell ⟨k, j, none⟩ u) := by
          intro w' k j u hk hm
          rcases mem k hm with h | h
          · exact hk.set _ h
          · exact hk.setNew _ h
        exact step _ (step _ YY.out.2.1 (.inl rfl)) (.inr rfl)

set_option maxHeartbeats 4000000 in
set_option maxRecDepth 100000 in
theorem ralloc_full {w : World} {b : Nat} {hv : Value} {size : Int} {hs : List Int} {ts : List Bool} {many : Int} (n : Nat) (g cap : Nat) (hl : n = ts.length) (hfull : ∀ i, i < n → ts.getD i false = true) (hsz : size ≤ (n : Int) ∧ n ≤ 65536)
    (hr : RfRep w b hv (.slice (some ⟨g, 0, none⟩) n cap) size hs ts many) :
    Calls Tryd.prog 26 #[.pointer (some ⟨b, 0, none⟩)] w fun e w' => e = .returned (.tuple #[.int .i64 0, .int .i64 31]) ∧ w = w' := by
  have HF := Lib.hid hfull
  have HR := Lib.hid hr
  obtain ⟨hsz1, hsz2⟩ := hsz
  have c0 := hr.c0
  have c1 := hr.c1
  have c2 := hr.c2
  have fb := hr.blk.free
  have HL := Lib.hid hl
  have HLT := Lib.hid hr.blk.lt
  have HTR := Lib.hid (hr.trow.alloc (.cells #[.bool true] 4))
  obtain ⟨i0, hi, hz0, hz1, hz2⟩ := info_parts info_u64r
  obtain ⟨j0, hj, hy0, hy1, hy2⟩ := info_parts info_bool
  have ht : ∀ i, i < n → w.cell? ⟨g, i, none⟩ = some (.bool true) := by
    intro i hi
    obtain ⟨_, h1 | ⟨g', cap', cur, hv', _⟩⟩ := hr.trow
    · cases h1.1
    · cases hv'
      have := hr.trow.cells (g := g) rfl i (.bool true) (by
        rw [List.getElem?_map, List.getElem?_eq_getElem (by omega)]
        have := hfull i hi
        rw [List.getD_eq_getElem?_getD, List.getElem?_eq_getElem (by omega)] at this
        simpa using this)
      simp only [Addr.add] at this
      split at this
      · rename_i e0; subst e0; simpa using this
      · simpa using this
  have HC := Lib.hid ht
  clear ht
  clear hr hfull hl
  go_enter Tryd.func26, Tryd.ntmps26
  go_wp2
  go_loopg [4] (n + 1) (fun k iv wr => ∃ i : Nat, i ≤ n ∧ k = n + 1 - i ∧ iv = .int .i64 i ∧ wr = w)
  case atStart => exact ⟨0, Nat.zero_le _, by omega, rfl, rfl⟩
  case round =>
    obtain ⟨i, hin, hk, rfl, rfl⟩ := hrel
    have HKK := Lib.hid hk
    clear hk
    by_cases him : i < n
    · have hdl : decide (i < n) = true := by simpa using him
      have hci := HC.out i him
      go_wp2
      go_roundg (n + 1 - (i + 1))
      case measure => rw [HKK.out]; omega
      case rel => exact ⟨i + 1, by omega, rfl, by go_num, rfl⟩
    · obtain rfl : i = n := by omega
      have hdl : decide (i < i) = false := by simp
      have hd1 : decide ((i : Int) ≥ size) = true := by simp; omega
      go_wp2
      go_ret2
      exact ⟨rfl, rfl⟩

end Go.Proofs.YtngmimhpeeahoaaDoor
