/- The walks of isKey and Bucket. -/
import Derived.Test.YtmldighidbfhhaaDoorHashCrc
import Derived.Test.YtmldighidbfhhaaDoorHashSt
import Derived.Laws.IdiomStrings
import Derived.Deep.RegionHeld3
import Derived.Deep.RegionHeldLaw
import Derived.Deep.RegionLaw
namespace Go.Proofs.YtmldighidbfhhaaDoor
open Go Go.RowKit
set_option linter.unusedVariables false

variable {o : List Nat} {w0 w : World} {b : Nat} {x : HtIx} {T : AHt}

theorem HtP.fields (h : Has o w0 w (HtP b x T)) : w.cell? ⟨b, 0, none⟩ = some (.pointer (some ⟨T.ab, 0, none⟩)) ∧ w.cell? ⟨b, 1, none⟩ = some x.hv ∧ w.cell? ⟨b, 2, none⟩ = some x.ev := by
  obtain ⟨o1, h1, _⟩ := h.left
  obtain ⟨o2, h2, _⟩ := h1.left
  exact ⟨(h2.blkAt (i := 0) (by omega)).1, (h2.blkAt (i := 1) (by omega)).1, (h2.blkAt (i := 2) (by omega)).1⟩
theorem HtP.heads (h : Has o w0 w (HtP b x T)) : ∃ o', Has o' w w (.rows 3 1 x.hv T.nB (headF x.C)) := by
  obtain ⟨o1, h1, _⟩ := h.right
  obtain ⟨o2, h2, _⟩ := h1.left
  exact ⟨o2, h2⟩
theorem HtP.ents (h : Has o w0 w (HtP b x T)) : ∃ o', Has o' w w (.rows 73 3 x.ev T.nE (entF x.C T)) := by
  obtain ⟨o1, h1, _⟩ := h.right
  obtain ⟨o2, h2, _⟩ := h1.right
  exact ⟨o2, h2⟩

/-- May a text be a key? -/
def keyB (s : ByteArray) : Bool := decide (1 ≤ s.size ∧ s.size ≤ 16)

theorem size_zero {s : ByteArray} : s = ⟨#[]⟩ ↔ s.size = 0 := by
  constructor
  · rintro rfl; rfl
  · intro h
    cases s with
    | mk d =>
      have : d = #[] := Array.eq_empty_of_size_eq_zero h
      rw [this]

set_option maxHeartbeats 1000000 in
set_option maxRecDepth 100000 in
theorem key_walk (w : World) (s : ByteArray) : Calls Tryd.prog 25 #[.string s] w fun e w' => e = .returned (.bool (keyB s)) ∧ w' = w := by
  by_cases h0 : s.size = 0
  · have e : s = ⟨#[]⟩ := size_zero.2 h0
    subst e
    go_enter Tryd.func25, Tryd.ntmps25
    go_wp2_with fail
    go_ret
    exact ⟨rfl, rfl⟩
  · have d0 : s.toList ≠ [] := by
      rw [ByteArray.toList_eq]
      intro e
      refine h0 ?_
      show s.data.size = 0
      rw [← Array.length_toList, e]; rfl
    have d1 : (s.toList == []) = false := by simpa using d0
    have d2 : s.toList.isEmpty = false := by simpa using d0
    have d3 : decide (s.toList = []) = false := by simpa using d0
    clear d0
    have d4 : decide ((s.size : Int) ≤ 16) = keyB s := by
      unfold keyB
      by_cases h : s.size ≤ 16 <;> simp [h] <;> omega
    go_enter Tryd.func25, Tryd.ntmps25
    go_wp2_with fail
    go_ret
    exact ⟨rfl, rfl⟩

/-- A key's sum. -/
def crcOf (s : ByteArray) : Int := crcF ((List.range s.size).map fun i => ((s.data.getD i 0).toNat : Int))

theorem crcOf_range (s : ByteArray) : 0 ≤ crcOf s ∧ crcOf s < 4294967296 := crcF_range _

theorem bytesRow_get (s : ByteArray) (cap i : Nat) (hi : i < s.size) : (bytesRow s cap)[i]? = some (.int .u8 ((s.data.getD i 0).toNat : Int)) := by
  have hi' : i < s.data.size := hi
  unfold bytesRow
  rw [Array.getElem?_append_left (by simpa using hi'), Array.getElem?_map, Array.getD_eq_getD_getElem?, Array.getElem?_eq_getElem hi']
  rfl

/-- The sum over a text's bytes, just laid. -/
theorem crc_key (w k : World) (s : ByteArray) (cap : Nat) (fr : Nat × Nat) (hs : s.size ≤ 1000000)
    (hk : Kept [] ((w.alloc (.cells (bytesRow s cap) 5 fr)).alloc (.cells #[.slice (some ⟨w.heap.size, 0, none⟩) s.size cap] 31)) k) :
    Calls Tryd.prog 26 #[.slice (some ⟨w.heap.size + 1, 0, none⟩) 1 1] k fun e w' => e = .returned (.int .u32 (crcOf s)) ∧ w' = k := by
  refine crc_walk k _ _ _ s.size cap (some ⟨w.heap.size, 0, none⟩) _ hs (hk.cell ?_ (by simp)) fun h0 => ⟨_, _, rfl, fun i hi => ⟨?_, Int.natCast_nonneg _, ?_⟩⟩
  · have e : (w.alloc (.cells (bytesRow s cap) 5 fr)).heap.size = w.heap.size + 1 := by simp
    rw [← e]
    exact World.cell?_alloc_mark _ _ _ _ 0
  · rw [Nat.zero_add]
    refine hk.cell (((Kept.refl [] _).alloc _).cell ?_ (by simp)) (by simp)
    rw [World.cell?_alloc_mark]
    exact bytesRow_get s cap i hi
  · have := (s.data.getD i 0).toNat_lt
    omega

set_option maxHeartbeats 4000000 in
set_option maxRecDepth 100000 in
theorem bucket_key (h : Has o w0 w (HtP b x T)) (s : ByteArray) (hs : keyB s = true) (hB : 0 < T.nB) (hB9 : T.nB ≤ 256) :
    Calls Tryd.prog 9 #[.pointer (some ⟨b, 0, none⟩), .string s] w fun e w' => e = .returned (.int .i64 (crcOf s % T.nB)) ∧ Kept [] w w' := by
  obtain ⟨_, c1, _⟩ := HtP.fields h
  obtain ⟨o1, h1⟩ := HtP.heads h
  obtain ⟨p, c, hhv⟩ := h1.rowsSlice
  rw [hhv] at c1
  have HK := Lib.hid (key_walk w s)
  rw [hs] at HK
  have hsz : s.size ≤ 16 := by unfold keyB at hs; simp at hs; omega
  clear h h1 hs
  go_enter Tryd.func9, Tryd.ntmps9
  go_wp2_with fail
  refine HK.out.mono ?_
  rintro e w' ⟨rfl, rfl⟩
  have hw32 : IntKind.u32.wrap (T.nB : Int) = T.nB := wrap32 (by omega) (by omega)
  obtain ⟨hr0, hr1⟩ := crcOf_range s
  have hb0 : (T.nB : Int) ≠ 0 := by omega
  have hb00 : T.nB ≠ 0 := by omega
  have hb1 : ((T.nB : Int) == 0) = false := by simpa using hb00
  have hb2 : decide ((T.nB : Int) = 0) = false := by simpa using hb00
  have hm0 : (crcOf s).tmod (T.nB : Int) = crcOf s % T.nB := Int.tmod_eq_emod_of_nonneg hr0
  have hm1 : 0 ≤ crcOf s % (T.nB : Int) := Int.emod_nonneg _ hb0
  have hm2 : crcOf s % (T.nB : Int) < T.nB := Int.emod_lt_of_pos _ (by omega)
  have hm3 : IntKind.u32.wrap (crcOf s % (T.nB : Int)) = crcOf s % (T.nB : Int) := wrap32 hm1 (by omega)
  have hm4 : IntKind.i64.wrap (crcOf s % (T.nB : Int)) = crcOf s % (T.nB : Int) := by
    unfold IntKind.wrap; simp [IntKind.bits, IntKind.signed]; omega
  have HC := Lib.hid (fun (k : World) (hk : Kept [] ((w'.alloc (.cells (bytesRow s (grownCap w'.drew s.size 0 5)) 5 ((bytesRow s (grownCap w'.drew s.size 0 5)).size, (bytesRow s (grownCap w'.drew s.size 0 5)).size + 1))).alloc (.cells #[.slice (some ⟨w'.heap.size, 0, none⟩) s.size (grownCap w'.drew s.size 0 5)] 31)) k) => crc_key w' k s (grownCap w'.drew s.size 0 5) _ (by omega) hk)
  have hcv : ∀ w : World, (convert 9 31 (.string s)).run Tryd.prog w = .ok (.slice (some ⟨w.heap.size, 0, none⟩) s.size (grownCap w s.size 0 5))
      (w.drew.alloc (.cells (bytesRow s (grownCap w s.size 0 5)) 5 ((bytesRow s (grownCap w s.size 0 5)).size, (bytesRow s (grownCap w s.size 0 5)).size + 1))) :=
    fun w => run_bytes_of_string w _ _ _ s Tryd.underlying9 Tryd.underlying31 Tryd.underlying5
  go_wp2_with fail
  go_region_held (fun w' => w'.cell? ⟨b, 1, none⟩ = some (.slice p T.nB c))
    (first | exact c1 | go_keep)
    (first | (go_at_call 26
              refine (HC.out _ ?_).mono ?_
              exact ((Kept.refl [] _).drew).drew
              rintro e w4 ⟨rfl, rfl⟩))
  all_goals (
    go_wp2_with fail
    go_ret
    exact ⟨rfl, ((((Kept.refl [] _).alloc _).alloc _).drew).drew⟩)
end Go.Proofs.YtmldighidbfhhaaDoor
