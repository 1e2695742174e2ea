/- The walks of isKey and Bucket.
The table's arena, its entries; an operation's block; the calls that end an operation.
The walks of a step: no table, over, the ones that shown takes.
The walk of New.
The walks of an entry's place, of one more entry; found and last.
The walks of an operation's steps: found, last, Step. -/
import Derived.Test.YtmldighidbfhhaaDoorMHol3
import Derived.Laws.IdiomStrings
import Derived.Deep.RegionHeld3
import Derived.Deep.RegionHeldLaw
import Derived.Deep.RegionLaw
import Derived.OwnWalk
import Derived.ScopeJumps
import Derived.WalkMore
namespace Go.Proofs.YtmldighidbfhhaaDoor
open Go Go.RowKit
set_option linter.unusedVariables false

variable {o : List Nat} {w0 w : World} {b : Nat} {x : HtIx} {T : AHt}

theorem HtP.fields (h : Has o w0 w (HtP b x T)) : w.cell? ⟨b, 0, none⟩ = some (.pointer (some ⟨T.ab, 0, none⟩)) ∧ w.cell? ⟨b, 1, none⟩ = some x.hv ∧ w.cell? ⟨b, 2, none⟩ = some x.ev := by
  obtain ⟨o1, h1, _⟩ := h.left
  obtain ⟨o2, h2, _⟩ := h1.left
  exact ⟨(h2.blkAt (i := 0) (by omega)).1, (h2.blkAt (i := 1) (by omega)).1, (h2.blkAt (i := 2) (by omega)).1⟩
theorem HtP.heads (h : Has o w0 w (HtP b x T)) : ∃ o', Has o' w w (.rows 3 1 x.hv T.nB (headF x.C)) := by
  obtain ⟨o1, h1, _⟩ := h.right
  obtain ⟨o2, h2, _⟩ := h1.left
  exact ⟨o2, h2⟩
theorem HtP.ents (h : Has o w0 w (HtP b x T)) : ∃ o', Has o' w w (.rows 73 3 x.ev T.nE (entF x.C T)) := by
  obtain ⟨o1, h1, _⟩ := h.right
  obtain ⟨o2, h2, _⟩ := h1.right
  exact ⟨o2, h2⟩

/-- May a text be a key? -/
def keyB (s : ByteArray) : Bool := decide (1 ≤ s.size ∧ s.size ≤ 16)

theorem size_zero {s : ByteArray} : s = ⟨#[]⟩ ↔ s.size = 0 := by
  constructor
  · rintro rfl; rfl
  · intro h
    cases s with
    | mk d =>
      have : d = #[] := Array.eq_empty_of_size_eq_zero h
      rw [this]

set_option maxHeartbeats 1000000 in
set_option maxRecDepth 100000 in
theorem key_walk (w : World) (s : ByteArray) : Calls Tryd.prog 25 #[.string s] w fun e w' => e = .returned (.bool (keyB s)) ∧ w' = w := by
  by_cases h0 : s.size = 0
  · have e : s = ⟨#[]⟩ := size_zero.2 h0
    subst e
    go_enter Tryd.func25, Tryd.ntmps25
    go_wp2_with fail
    go_ret
    exact ⟨rfl, rfl⟩
  · have d0 : s.toList ≠ [] := by
      rw [ByteArray.toList_eq]
      intro e
      refine h0 ?_
      show s.data.size = 0
      rw [← Array.length_toList, e]; rfl
    have d1 : (s.toList == []) = false := by simpa using d0
    have d2 : s.toList.isEmpty = false := by simpa using d0
    have d3 : decide (s.toList = []) = false := by simpa using d0
    clear d0
    have d4 : decide ((s.size : Int) ≤ 16) = keyB s := by
      unfold keyB
      by_cases h : s.size ≤ 16 <;> simp [h] <;> omega
    go_enter Tryd.func25, Tryd.ntmps25
    go_wp2_with fail
    go_ret
    exact ⟨rfl, rfl⟩

/-- A key's sum. -/
def crcOf (s : ByteArray) : Int := crcF ((List.range s.size).map fun i => ((s.data.getD i 0).toNat : Int))

theorem crcOf_range (s : ByteArray) : 0 ≤ crcOf s ∧ crcOf s < 4294967296 := crcF_range _

theorem bytesRow_get (s : ByteArray) (cap i : Nat) (hi : i < s.size) : (bytesRow s cap)[i]? = some (.int .u8 ((s.data.getD i 0).toNat : Int)) := by
  have hi' : i < s.data.size := hi
  unfold bytesRow
  rw [Array.getElem?_append_left (by simpa using hi'), Array.getElem?_map, Array.getD_eq_getD_getElem?, Array.getElem?_eq_getElem hi']
  rfl

/-- The sum over a text's bytes, just laid. -/
theorem crc_key (w k : World) (s : ByteArray) (cap : Nat) (fr : Nat × Nat) (hs : s.size ≤ 1000000)
    (hk : Kept [] ((w.alloc (.cells (bytesRow s cap) 5 fr)).alloc (.cells #[.slice (some ⟨w.heap.size, 0, none⟩) s.size cap] 31)) k) :
    Calls Tryd.prog 26 #[.slice (some ⟨w.heap.size + 1, 0, none⟩) 1 1] k fun e w' => e = .returned (.int .u32 (crcOf s)) ∧ w' = k := by
  refine crc_walk k _ _ _ s.size cap (some ⟨w.heap.size, 0, none⟩) _ hs (hk.cell ?_ (by simp)) fun h0 => ⟨_, _, rfl, fun i hi => ⟨?_, Int.natCast_nonneg _, ?_⟩⟩
  · have e : (w.alloc (.cells (bytesRow s cap) 5 fr)).heap.size = w.heap.size + 1 := by simp
    rw [← e]
    exact World.cell?_alloc_mark _ _ _ _ 0
  · rw [Nat.zero_add]
    refine hk.cell (((Kept.refl [] _).alloc _).cell ?_ (by simp)) (by simp)
    rw [World.cell?_alloc_mark]
    exact bytesRow_get s cap i hi
  · have := (s.data.getD i 0).toNat_lt
    omega

set_option maxHeartbeats 4000000 in
set_option maxRecDepth 100000 in
theorem bucket_key (h : Has o w0 w (HtP b x T)) (s : ByteArray) (hs : keyB s = true) (hB : 0 < T.nB) (hB9 : T.nB ≤ 256) :
    Calls Tryd.prog 9 #[.pointer (some ⟨b, 0, none⟩), .string s] w fun e w' => e = .returned (.int .i64 (crcOf s % T.nB)) ∧ Kept [] w w' := by
  obtain ⟨_, c1, _⟩ := HtP.fields h
  obtain ⟨o1, h1⟩ := HtP.heads h
  obtain ⟨p, c, hhv⟩ := h1.rowsSlice
  rw [hhv] at c1
  have HK := Lib.hid (key_walk w s)
  rw [hs] at HK
  have hsz : s.size ≤ 16 := by unfold keyB at hs; simp at hs; omega
  clear h h1 hs
  go_enter Tryd.func9, Tryd.ntmps9
  go_wp2_with fail
  refine HK.out.mono ?_
  rintro e w' ⟨rfl, rfl⟩
  have hw32 : IntKind.u32.wrap (T.nB : Int) = T.nB := wrap32 (by omega) (by omega)
  obtain ⟨hr0, hr1⟩ := crcOf_range s
  have hb0 : (T.nB : Int) ≠ 0 := by omega
  have hb00 : T.nB ≠ 0 := by omega
  have hb1 : ((T.nB : Int) == 0) = false := by simpa using hb00
  have hb2 : decide ((T.nB : Int) = 0) = false := by simpa using hb00
  have hm0 : (crcOf s).tmod (T.nB : Int) = crcOf s % T.nB := Int.tmod_eq_emod_of_nonneg hr0
  have hm1 : 0 ≤ crcOf s % (T.nB : Int) := Int.emod_nonneg _ hb0
  have hm2 : crcOf s % (T.nB : Int) < T.nB := Int.emod_lt_of_pos _ (by omega)
  have hm3 : IntKind.u32.wrap (crcOf s % (T.nB : Int)) = crcOf s % (T.nB : Int) := wrap32 hm1 (by omega)
  have hm4 : IntKind.i64.wrap (crcOf s % (T.nB : Int)) = crcOf s % (T.nB : Int) := by
    unfold IntKind.wrap; simp [IntKind.bits, IntKind.signed]; omega
  have HC := Lib.hid (fun (k : World) (hk : Kept [] ((w'.alloc (.cells (bytesRow s (grownCap w'.drew s.size 0 5)) 5 ((bytesRow s (grownCap w'.drew s.size 0 5)).size, (bytesRow s (grownCap w'.drew s.size 0 5)).size + 1))).alloc (.cells #[.slice (some ⟨w'.heap.size, 0, none⟩) s.size (grownCap w'.drew s.size 0 5)] 31)) k) => crc_key w' k s (grownCap w'.drew s.size 0 5) _ (by omega) hk)
  have hcv : ∀ w : World, (convert 9 31 (.string s)).run Tryd.prog w = .ok (.slice (some ⟨w.heap.size, 0, none⟩) s.size (grownCap w s.size 0 5))
      (w.drew.alloc (.cells (bytesRow s (grownCap w s.size 0 5)) 5 ((bytesRow s (grownCap w s.size 0 5)).size, (bytesRow s (grownCap w s.size 0 5)).size + 1))) :=
    fun w => run_bytes_of_string w _ _ _ s Tryd.underlying9 Tryd.underlying31 Tryd.underlying5
  go_wp2_with fail
  go_region_held (fun w' => w'.cell? ⟨b, 1, none⟩ = some (.slice p T.nB c))
    (first | exact c1 | go_keep)
    (first | (go_at_call 26
              refine (HC.out _ ?_).mono ?_
              exact ((Kept.refl [] _).drew).drew
              rintro e w4 ⟨rfl, rfl⟩))
  all_goals (
    go_wp2_with fail
    go_ret
    exact ⟨rfl, ((((Kept.refl [] _).alloc _).alloc _).drew).drew⟩)
end Go.Proofs.YtmldighidbfhhaaDoor
namespace Go.Proofs.YtmldighidbfhhaaDoor
open Go Go.RowKit
set_option linter.unusedVariables false

variable {o : List Nat} {w0 w : World} {b : Nat} {x : HtIx} {T : AHt}

theorem htp_arena (h : Has o w0 w (HtP b x T)) : ∃ o', OwnF o' w w T.ab x.S ∧ (∀ y ∈ o', y ∈ o ∨ w0.heap.size ≤ y) ∧ ∀ w' S' T', T'.ab = T.ab → HtRows x T' = HtRows x T → OwnF o' w w' T.ab S' → Has o w0 w' (HtP b { x with S := S' } T') := by
  obtain ⟨o1, h1, p1, _, b1⟩ := h.left
  obtain ⟨o2, h2, p2, q2, b2⟩ := h1.right
  refine ⟨o2, h2, fun y hy => ?_, fun w' S' T' e1 e2 hS => ?_⟩
  · rcases p2 y hy with h | h
    · exact p1 y h
    · have := q2 y hy; omega
  · have := b1 _ _ (b2 _ (.arena T.ab S') hS)
    show Has o w0 w' (((Part.blk b 3 65 (htF T'.ab x.hv x.ev)).sep (.arena T'.ab S')).sep (HtRows x T'))
    rw [e1, e2]; exact this

theorem htRows_set (x : HtIx) (T : AHt) (l : HLoc) (v : Int) : HtRows x (T.set l v) = HtRows x T := by
  unfold HtRows
  rw [T.nB_set, T.nE_set]
  have e1 : entF x.C (T.set l v) = entF x.C T := funext fun i => by unfold entF; rw [T.key_set, T.ref_set]
  rw [e1]
theorem htRows_free (x : HtIx) (T : AHt) (i : Nat) : HtRows x (T.free i) = HtRows x T := by
  have e1 : entF x.C (T.free i) = entF x.C T := funext fun j => by
    unfold entF AHt.free
    by_cases e : j = i <;> simp [e]
  unfold HtRows
  rw [e1]; rfl

theorem ht_load (h : Has o w0 w (HtP b x T)) (hr : HtRep x.S x.C T) (l : HLoc) (v : Int) (hl : T.at_ l = some v) :
    Calls Tryd.prog 28 #[.pointer (some ⟨T.ab, 0, none⟩), .int .i64 (x.C.of l)] w fun e w' => e = .returned (.tuple #[.int .u64 v, .int .i64 0]) ∧ Has o w0 w' (HtP b { x with S := x.S.step } T.step) := by
  obtain ⟨o', hO, _, back⟩ := htp_arena h
  refine (own_load hO _ v (hr.rep.has l v hl)).mono ?_
  rintro e w' ⟨rfl, h'⟩
  exact ⟨rfl, back _ _ T.step rfl rfl h'⟩
theorem ht_store (h : Has o w0 w (HtP b x T)) (hr : HtRep x.S x.C T) (l : HLoc) (u v : Int) (hl : T.at_ l = some u) :
    Calls Tryd.prog 34 #[.pointer (some ⟨T.ab, 0, none⟩), .int .i64 (x.C.of l), .int .u64 v] w fun e w' => e = .returned (.int .i64 0) ∧ Has o w0 w' (HtP b { x with S := x.S.step.put (x.C.of l) v } (T.step.set l v)) := by
  obtain ⟨o', hO, _, back⟩ := htp_arena h
  refine (own_store hO _ u v (hr.rep.has l u hl)).mono ?_
  rintro e w' ⟨rfl, h'⟩
  exact ⟨rfl, back _ _ (T.step.set l v) (by cases l <;> rfl) (htRows_set x T.step l v) h'⟩
theorem ht_cas (h : Has o w0 w (HtP b x T)) (hr : HtRep x.S x.C T) (l : HLoc) (u v : Int) (hl : T.at_ l = some u) :
    Calls Tryd.prog 35 #[.pointer (some ⟨T.ab, 0, none⟩), .int .i64 (x.C.of l), .int .u64 u, .int .u64 v] w fun e w' => e = .returned (.tuple #[.bool true, .int .i64 0]) ∧ Has o w0 w' (HtP b { x with S := x.S.step.put (x.C.of l) v } (T.step.set l v)) := by
  obtain ⟨o', hO, _, back⟩ := htp_arena h
  refine (own_cas hO _ u v (hr.rep.has l u hl)).mono ?_
  rintro e w' ⟨rfl, h'⟩
  exact ⟨rfl, back _ _ (T.step.set l v) (by cases l <;> rfl) (htRows_set x T.step l v) h'⟩
theorem ht_cas_not (h : Has o w0 w (HtP b x T)) (hr : HtRep x.S x.C T) (l : HLoc) (u old v : Int) (hl : T.at_ l = some u) (hne : u ≠ old) :
    Calls Tryd.prog 35 #[.pointer (some ⟨T.ab, 0, none⟩), .int .i64 (x.C.of l), .int .u64 old, .int .u64 v] w fun e w' => e = .returned (.tuple #[.bool false, .int .i64 0]) ∧ Has o w0 w' (HtP b { x with S := x.S.step } T.step) := by
  obtain ⟨o', hO, _, back⟩ := htp_arena h
  refine (own_cas_not hO _ u old v (hr.rep.has l u hl) hne).mono ?_
  rintro e w' ⟨rfl, h'⟩
  exact ⟨rfl, back _ _ T.step rfl rfl h'⟩
theorem ht_free (h : Has o w0 w (HtP b x T)) (hr : HtRep x.S x.C T) (i : Nat) (u : Int) (hl : T.at_ (.next i) = some u) :
    Calls Tryd.prog 32 #[.pointer (some ⟨T.ab, 0, none⟩), .int .i64 (x.C.e i)] w fun e w' => e = .returned (.int .i64 0) ∧ Has o w0 w' (HtP b { x with S := x.S.drop (x.C.e i) } (T.free i)) := by
  obtain ⟨o', hO, _, back⟩ := htp_arena h
  refine (own_free hO _ u (hr.rep.has (.next i) u hl)).mono ?_
  rintro e w' ⟨rfl, h'⟩
  exact ⟨rfl, back _ _ (T.free i) rfl (htRows_free x T i) h'⟩
theorem ht_alloc (h : Has o w0 w (HtP b x T)) (hr : HtRep x.S x.C T) (hT : TabAt w0) (ho : 0 ∉ o) (hfree : T.used < T.size) :
    Calls Tryd.prog 31 #[.pointer (some ⟨T.ab, 0, none⟩)] w fun e w' => ∃ c, e = .returned (.tuple #[.int .i64 (c : Nat), .int .i64 0]) ∧ c < x.S.size ∧ x.S.get c = none ∧ Has o w0 w' (HtP b { x with S := x.S.put c 0 } T) := by
  obtain ⟨c, hc, hg, hl⟩ := least_free x.S.get x.S.size (by rw [hr.rep.count, hr.size]; exact hfree)
  have hTw : TabAt w := hT.kept h.keeps ho
  obtain ⟨o', hO, p, back⟩ := htp_arena h
  refine (own_alloc hO hTw c hc hg hl (tab_out hT ho p)).mono ?_
  rintro e w' ⟨rfl, h'⟩
  exact ⟨c, rfl, hc, hg, back _ _ T rfl rfl h'⟩
theorem ht_alloc_full (h : Has o w0 w (HtP b x T)) (hr : HtRep x.S x.C T) (hfull : T.size ≤ T.used) :
    Calls Tryd.prog 31 #[.pointer (some ⟨T.ab, 0, none⟩)] w fun e w' => e = .returned (.tuple #[.int .i64 0, .int .i64 31]) ∧ Has o w0 w' (HtP b x T) := by
  obtain ⟨o', hO, p, back⟩ := htp_arena h
  refine (own_alloc_full hO ((cnt_full _ _).1 ?_)).mono ?_
  · have := cnt_le x.S.get x.S.size
    have := hr.rep.count
    have := hr.size
    omega
  rintro e w' ⟨rfl, h'⟩
  exact ⟨rfl, back _ _ T rfl rfl h'⟩

/-- An operation. -/
structure AHop where
  key : ByteArray
  ref : Int
  puts : Bool
  next : Int
  head : Int
  cur : Int
  own : Int
  had : Bool
  code : Int

def hopF (tb : Option Addr) (q : AHop) (i : Nat) : Value :=
  if i = 0 then .pointer tb else if i = 1 then .string q.key else if i = 2 then .int .i64 q.ref else if i = 3 then .bool q.puts else if i = 4 then .int .i64 q.next
  else if i = 5 then .int .u64 q.head else if i = 6 then .int .u64 q.cur else if i = 7 then .int .u64 q.own else if i = 8 then .bool q.had else .int .i64 q.code
noncomputable def Part.hop (ob : Nat) (tb : Option Addr) (q : AHop) : Part := .blk ob 10 69 (hopF tb q)

variable {ob : Nat} {tb : Option Addr} {q : AHop}

theorem hop_cells (h : Has o w0 w (.hop ob tb q)) : w.cell? ⟨ob, 0, none⟩ = some (.pointer tb) ∧ w.cell? ⟨ob, 1, none⟩ = some (.string q.key) ∧ w.cell? ⟨ob, 2, none⟩ = some (.int .i64 q.ref) ∧ w.cell? ⟨ob, 3, none⟩ = some (.bool q.puts) ∧
    w.cell? ⟨ob, 4, none⟩ = some (.int .i64 q.next) ∧ w.cell? ⟨ob, 5, none⟩ = some (.int .u64 q.head) ∧ w.cell? ⟨ob, 6, none⟩ = some (.int .u64 q.cur) ∧ w.cell? ⟨ob, 7, none⟩ = some (.int .u64 q.own) ∧ w.cell? ⟨ob, 8, none⟩ = some (.bool q.had) ∧ w.cell? ⟨ob, 9, none⟩ = some (.int .i64 q.code) := by
  refine ⟨?_, ?_, ?_, ?_, ?_, ?_, ?_, ?_, ?_, ?_⟩
  · exact (h.blkAt (i := 0) (by omega)).1
  · exact (h.blkAt (i := 1) (by omega)).1
  · exact (h.blkAt (i := 2) (by omega)).1
  · exact (h.blkAt (i := 3) (by omega)).1
  · exact (h.blkAt (i := 4) (by omega)).1
  · exact (h.blkAt (i := 5) (by omega)).1
  · exact (h.blkAt (i := 6) (by omega)).1
  · exact (h.blkAt (i := 7) (by omega)).1
  · exact (h.blkAt (i := 8) (by omega)).1
  · exact (h.blkAt (i := 9) (by omega)).1
theorem hop_free (h : Has o w0 w (.hop ob tb q)) (i : Nat) (hi : i < 10) : w.frozen? ⟨ob, i, none⟩ = false := (h.blkAt (i := i) hi).2.1

theorem blk_congr {b n : Nat} {T : TypeId} {f g : Nat → Value} (h : Has o w0 w (.blk b n T f)) (e : ∀ i, i < n → f i = g i) : Has o w0 w (.blk b n T g) := by
  obtain ⟨fp, ⟨hb, rfl⟩, hn, k⟩ := h
  exact ⟨[b], ⟨hb.congr e, rfl⟩, hn, k⟩

/-- A store to an operation's block. -/
theorem hop_put (h : Has o w0 w (.hop ob tb q)) (i : Nat) (hi : i < 10) (v : Value) (q' : AHop) (e : ∀ j, j < 10 → (if j = i then v else hopF tb q j) = hopF tb q' j) : Has o w0 (w.setCell ⟨ob, i, none⟩ v) (.hop ob tb q') := by
  have h2 := (h.blkAt (i := i) hi).2.2 v
  exact blk_congr h2 fun j hj => by unfold upd; exact e j hj

theorem ten {p : Nat → Prop} (h0 : p 0) (h1 : p 1) (h2 : p 2) (h3 : p 3) (h4 : p 4) (h5 : p 5) (h6 : p 6) (h7 : p 7) (h8 : p 8) (h9 : p 9) : ∀ j, j < 10 → p j := by
  intro j hj
  rcases (by omega : j = 0 ∨ j = 1 ∨ j = 2 ∨ j = 3 ∨ j = 4 ∨ j = 5 ∨ j = 6 ∨ j = 7 ∨ j = 8 ∨ j = 9) with rfl | rfl | rfl | rfl | rfl | rfl | rfl | rfl | rfl | rfl <;> assumption

theorem hop_next (h : Has o w0 w (.hop ob tb q)) (v : Int) : Has o w0 (w.setCell ⟨ob, 4, none⟩ (.int .i64 v)) (.hop ob tb { q with next := v }) := hop_put h 4 (by omega) _ _ (ten rfl rfl rfl rfl rfl rfl rfl rfl rfl rfl)
theorem hop_head (h : Has o w0 w (.hop ob tb q)) (v : Int) : Has o w0 (w.setCell ⟨ob, 5, none⟩ (.int .u64 v)) (.hop ob tb { q with head := v }) := hop_put h 5 (by omega) _ _ (ten rfl rfl rfl rfl rfl rfl rfl rfl rfl rfl)
theorem hop_cur (h : Has o w0 w (.hop ob tb q)) (v : Int) : Has o w0 (w.setCell ⟨ob, 6, none⟩ (.int .u64 v)) (.hop ob tb { q with cur := v }) := hop_put h 6 (by omega) _ _ (ten rfl rfl rfl rfl rfl rfl rfl rfl rfl rfl)
theorem hop_own (h : Has o w0 w (.hop ob tb q)) (v : Int) : Has o w0 (w.setCell ⟨ob, 7, none⟩ (.int .u64 v)) (.hop ob tb { q with own := v }) := hop_put h 7 (by omega) _ _ (ten rfl rfl rfl rfl rfl rfl rfl rfl rfl rfl)
theorem hop_ref (h : Has o w0 w (.hop ob tb q)) (v : Int) : Has o w0 (w.setCell ⟨ob, 2, none⟩ (.int .i64 v)) (.hop ob tb { q with ref := v }) := hop_put h 2 (by omega) _ _ (ten rfl rfl rfl rfl rfl rfl rfl rfl rfl rfl)
theorem hop_had (h : Has o w0 w (.hop ob tb q)) (v : Bool) : Has o w0 (w.setCell ⟨ob, 8, none⟩ (.bool v)) (.hop ob tb { q with had := v }) := hop_put h 8 (by omega) _ _ (ten rfl rfl rfl rfl rfl rfl rfl rfl rfl rfl)
theorem hop_code (h : Has o w0 w (.hop ob tb q)) (v : Int) : Has o w0 (w.setCell ⟨ob, 9, none⟩ (.int .i64 v)) (.hop ob tb { q with code := v }) := hop_put h 9 (by omega) _ _ (ten rfl rfl rfl rfl rfl rfl rfl rfl rfl rfl)

/-- An operation that is over. -/
def AHop.ends (q : AHop) (ref : Int) (had : Bool) (code : Int) : AHop := { q with ref := ref, had := had, code := code, next := 4 }

set_option maxHeartbeats 1000000 in
set_option maxRecDepth 100000 in
theorem ends_walk (h : Has o w0 w (.hop ob tb q)) (ref : Int) (had : Bool) (code : Int) :
    Calls Tryd.prog 36 #[.pointer (some ⟨ob, 0, none⟩), .int .i64 ref, .bool had, .int .i64 code] w fun e w' => e = .returned (.bool true) ∧ Has o w0 w' (.hop ob tb (q.ends ref had code)) := by
  obtain ⟨c0, c1, c2, c3, c4, c5, c6, c7, c8, c9⟩ := hop_cells h
  have z2 := hop_free h 2 (by omega)
  have z8 := hop_free h 8 (by omega)
  have z9 := hop_free h 9 (by omega)
  have z4 := hop_free h 4 (by omega)
  have HX := Lib.hid (hop_next (hop_code (hop_had (hop_ref h ref) had) code) 4)
  clear h
  go_enter Tryd.func36, Tryd.ntmps36
  go_wp2_with fail
  go_ret
  exact ⟨rfl, HX.out⟩

theorem Has.madeHop (w : World) (tb : Option Addr) (q : AHop) : Has [] w (w.alloc (.cells #[.pointer tb, .string q.key, .int .i64 q.ref, .bool q.puts, .int .i64 q.next, .int .u64 q.head, .int .u64 q.cur, .int .u64 q.own, .bool q.had, .int .i64 q.code] 69)) (.hop w.heap.size tb q) :=
  Has.madeBlk _ _ _ 10 rfl (ten rfl rfl rfl rfl rfl rfl rfl rfl rfl rfl)

/-- An operation that was just begun. -/
def AHop.new (key : ByteArray) (ref : Int) (puts : Bool) : AHop := ⟨key, ref, puts, 0, 0, 0, 0, false, 0⟩

set_option maxHeartbeats 1000000 in
set_option maxRecDepth 100000 in
theorem insert_walk (w : World) (tb : Option Addr) (key : ByteArray) (ref : Int) :
    Calls Tryd.prog 19 #[.pointer tb, .string key, .int .i64 ref] w fun e w' => ∃ ob, e = .returned (.pointer (some ⟨ob, 0, none⟩)) ∧ Has [] w w' (.hop ob tb (.new key ref true)) := by
  have HX := Lib.hid (Has.madeHop w tb (.new key ref true))
  go_enter Tryd.func19, Tryd.ntmps19
  go_wp2_with fail
  go_ret
  exact ⟨_, rfl, HX.out⟩
set_option maxHeartbeats 1000000 in
set_option maxRecDepth 100000 in
theorem lookup_walk (w : World) (tb : Option Addr) (key : ByteArray) :
    Calls Tryd.prog 20 #[.pointer tb, .string key] w fun e w' => ∃ ob, e = .returned (.pointer (some ⟨ob, 0, none⟩)) ∧ Has [] w w' (.hop ob tb (.new key 0 false)) := by
  have HX := Lib.hid (Has.madeHop w tb (.new key 0 false))
  go_enter Tryd.func20, Tryd.ntmps20
  go_wp2_with fail
  go_ret
  exact ⟨_, rfl, HX.out⟩

set_option maxHeartbeats 1000000 in
set_option maxRecDepth 100000 in
theorem ref_over (h : Has o w0 w (.hop ob tb q)) (hn : q.next = 4) :
    Calls Tryd.prog 13 #[.pointer (some ⟨ob, 0, none⟩)] w fun e w' => e = .returned (.tuple #[.int .i64 q.ref, .bool q.had, .int .i64 q.code]) ∧ Kept [] w w' := by
  obtain ⟨c0, c1, c2, c3, c4, c5, c6, c7, c8, c9⟩ := hop_cells h
  rw [hn] at c4
  clear h
  go_enter Tryd.func13, Tryd.ntmps13
  go_wp2_with fail
  go_quiet (fail)
  go_wp2_with fail
  go_ret3
  exact ⟨rfl, (Kept.refl [] _).drewN _⟩
set_option maxHeartbeats 1000000 in
set_option maxRecDepth 100000 in
theorem ref_nil (w : World) :
    Calls Tryd.prog 13 #[.pointer none] w fun e w' => e = .returned (.tuple #[.int .i64 0, .bool false, .int .i64 1]) ∧ w' = w := by
  go_enter Tryd.func13, Tryd.ntmps13
  go_wp2_with fail
  go_ret3
  exact ⟨rfl, rfl⟩
set_option maxHeartbeats 1000000 in
set_option maxRecDepth 100000 in
theorem bucket_nil (w : World) (s : ByteArray) :
    Calls Tryd.prog 9 #[.pointer none, .string s] w fun e w' => e = .returned (.int .i64 0) ∧ w' = w := by
  go_enter Tryd.func9, Tryd.ntmps9
  go_wp2_with fail
  go_ret
  exact ⟨rfl, rfl⟩
set_option maxHeartbeats 1000000 in
set_option maxRecDepth 100000 in
theorem bucket_nokey (w : World) (s : ByteArray) (hs : keyB s = false) :
    Calls Tryd.prog 9 #[.pointer (some ⟨b, 0, none⟩), .string s] w fun e w' => e = .returned (.int .i64 0) ∧ w' = w := by
  have HK := Lib.hid (key_walk w s)
  rw [hs] at HK
  go_enter Tryd.func9, Tryd.ntmps9
  go_wp2_with fail
  refine HK.out.mono ?_
  rintro e w' ⟨rfl, rfl⟩
  go_wp2_with fail
  go_ret
  exact ⟨rfl, rfl⟩
set_option maxHeartbeats 1000000 in
set_option maxRecDepth 100000 in
theorem keys_nil (w : World) :
    Calls Tryd.prog 17 #[.pointer none] w fun e w' => e = .returned (.slice none 0 0) ∧ w' = w := by
  go_enter Tryd.func17, Tryd.ntmps17
  go_wp2_with fail
  go_ret
  exact ⟨rfl, rfl⟩
set_option maxHeartbeats 1000000 in
set_option maxRecDepth 100000 in
theorem new_nil (w : World) (n : Int) :
    Calls Tryd.prog 18 #[.pointer none, .int .i64 n] w fun e w' => e = .returned (.tuple #[.pointer none, .int .i64 1]) ∧ w' = w := by
  go_enter Tryd.func18, Tryd.ntmps18
  go_wp2_with fail
  go_ret2
  exact ⟨rfl, rfl⟩
end Go.Proofs.YtmldighidbfhhaaDoor
namespace Go.Proofs.YtmldighidbfhhaaDoor
open Go Go.RowKit
set_option linter.unusedVariables false

variable {o : List Nat} {w0 w : World} {b : Nat} {x : HtIx} {T : AHt} {ob : Nat} {tb : Option Addr} {q : AHop}

section
variable {P : Program} {a : Act} {w : World} {Q : Exit → Act → World → Prop}
/-- A scope in which the run jumps ahead to one label, once. -/
theorem wp_scope_ahead {c rest : Code} (l : Nat) (hf : findLabel c l = some rest)
    (first : c.wp P (Exit.jump l (fun a w => rest.wp P (Exit.jump l (fun _ _ => False) Q) a w) Q) a w) : (Code.scope c).wp P Q a w :=
  wp_scope_jumps l _ (fun _ _ => 0) hf first fun a w h => Code.wp_mono (fun e a' w' hq => by
    cases e <;> first | exact hq | exact ⟨hq.1, hq.2.elim⟩) h
@[go_sem] theorem Exit.jump_normal (l : Nat) (J : Act → World → Prop) : Exit.jump l J Q .normal a w = Q .normal a w := rfl
@[go_sem] theorem Exit.jump_exit (l : Nat) (J : Act → World → Prop) (id : Nat) : Exit.jump l J Q (.exit id) a w = Q (.exit id) a w := rfl
@[go_sem] theorem Exit.jump_ret (l : Nat) (J : Act → World → Prop) : Exit.jump l J Q .ret a w = Q .ret a w := rfl
@[go_sem] theorem Exit.jump_panic (l : Nat) (J : Act → World → Prop) (ch : List PanicEntry) : Exit.jump l J Q (.panic ch) a w = Q (.panic ch) a w := rfl
end

set_option maxHeartbeats 1000000 in
set_option maxRecDepth 100000 in
/-- A step upon no table. -/
theorem step_notable (h : Has o w0 w (.hop ob none q)) (hn : q.next = 0) :
    Calls Tryd.prog 21 #[.pointer (some ⟨ob, 0, none⟩)] w fun e w' => e = .returned (.bool true) ∧ Has o w0 w' (.hop ob none (q.ends 0 false 1)) := by
  obtain ⟨c0, c1, c2, c3, c4, c5, c6, c7, c8, c9⟩ := hop_cells h
  rw [hn] at c4
  have HE := Lib.hid (ends_walk h 0 false 1)
  have HR : Hid (Calls Tryd.prog 33 #[.pointer (some ⟨ob, 0, none⟩)] w fun e w' => e = .returned (.bool true) ∧ Has o w0 w' (.hop ob none (q.ends 0 false 1))) := by
    refine Lib.hid ?_
    clear h
    go_enter Tryd.func33, Tryd.ntmps33
    go_wp2_with fail
    refine HE.out.mono ?_
    rintro e w' ⟨rfl, h'⟩
    have HX := Lib.hid h'
    clear h'
    go_wp2_with fail
    go_ret
    exact ⟨rfl, HX.out⟩
  clear h HE
  go_enter Tryd.func21, Tryd.ntmps21
  go_wp2_with fail
  go_step3
  go_wp2_with fail
  refine HR.out.mono ?_
  rintro e w' ⟨rfl, h'⟩
  have HX := Lib.hid h'
  clear h'
  go_wp2_with fail
  rw [Exit.noGoto_ret]
  go_ret
  exact ⟨rfl, HX.out⟩
set_option maxHeartbeats 1000000 in
set_option maxRecDepth 100000 in
theorem step_over (h : Has o w0 w (.hop ob tb q)) (hn : q.next = 4) :
    Calls Tryd.prog 21 #[.pointer (some ⟨ob, 0, none⟩)] w fun e w' => e = .returned (.bool true) ∧ w' = w := by
  obtain ⟨c0, c1, c2, c3, c4, c5, c6, c7, c8, c9⟩ := hop_cells h
  rw [hn] at c4
  clear h
  go_enter Tryd.func21, Tryd.ntmps21
  go_wp2_with fail
  go_step3
  go_wp2_with fail
  rw [Exit.noGoto_ret]
  go_ret
  exact ⟨rfl, rfl⟩
set_option maxHeartbeats 1000000 in
set_option maxRecDepth 100000 in
theorem step_nil (w : World) :
    Calls Tryd.prog 21 #[.pointer none] w fun e w' => e = .returned (.bool true) ∧ w' = w := by
  go_enter Tryd.func21, Tryd.ntmps21
  go_wp2_with fail
  go_step3
  go_wp2_with fail
  rw [Exit.noGoto_ret]
  go_ret
  exact ⟨rfl, rfl⟩
end Go.Proofs.YtmldighidbfhhaaDoor
namespace Go.Proofs.YtmldighidbfhhaaDoor
open Go Go.RowKit
set_option linter.unusedVariables false

variable {o : List Nat} {w0 w : World} {b : Nat} {x : HtIx} {T : AHt}

/-- A new table. -/
def newHt (ab size n : Nat) : AHt := ⟨ab, size, 0, n, fun _ => 0, 0, fun _ => ⟨default, 0, 0, true⟩⟩
theorem newHt_bucket (ab size i : Nat) : (newHt ab size i).bucket = newHt ab size (i + 1) := by
  unfold newHt AHt.bucket
  simp
theorem newHt_used (ab size n : Nat) : (newHt ab size n).used = n := rfl
theorem newHt_rep (ab size : Nat) (hs : size ≤ 65536) : HtRep ⟨size, fun _ => none, 0⟩ ⟨fun _ => 0, fun _ => 0⟩ (newHt ab size 0) := by
  have no : ∀ {l : HLoc} {v : Int}, (newHt ab size 0).at_ l = some v → False := fun {l v} h => by cases l <;> simp [newHt, AHt.at_] at h
  refine ⟨rfl, hs, rfl, ⟨fun l v h => (no h).elim, fun l l' h _ _ => ?_, fun l v h => (no h).elim, ?_, fun l v h => (no h).elim⟩, fun l v h => (no h).elim⟩
  · obtain ⟨v, hv⟩ := Option.isSome_iff_exists.1 h
    exact (no hv).elim
  · show cnt (fun _ => none) size = 0
    have : ∀ n, cnt (fun _ => none) n = 0 := fun n => by
      induction n with
      | zero => rfl
      | succ n ih => unfold cnt; rw [ih]; rfl
    exact this _

theorem htp_moreHead {w5 : World} {v' : Value} {c : Nat} (ob : Obj) (h : Has o w0 w (HtP b x T))
    (happ : Appended (w.alloc ob) w5 3 1 x.hv v' (T.nB + 1) (flatN T.nB (headF x.C) ++ [.int .i64 (c : Nat)])) :
    w5.cell? ⟨b, 1, none⟩ = some x.hv ∧ w5.frozen? ⟨b, 1, none⟩ = false ∧ Has o w0 (w5.setCell ⟨b, 1, none⟩ v') (HtP b { x with hv := v', C := { x.C with h := fun j => if j = T.nB then c else x.C.h j } } T.bucket) := by
  obtain ⟨o2, h2, _, _, b2⟩ := h.right
  obtain ⟨o3, h3, _, _, b3⟩ := h2.left
  have h4 := Has.rowsMore ob h3 happ
  have h5 := b2 _ _ (b3 _ _ h4)
  obtain ⟨o6, h6, _, _, b6⟩ := h5.left
  obtain ⟨o7, h7, _, _, b7⟩ := h6.left
  obtain ⟨c1, z, hput⟩ := h7.blkAt (i := 1) (by omega)
  refine ⟨c1, z, ?_⟩
  have h8 := b6 _ _ (b7 _ _ (hput v'))
  have e1 : upd (htF T.ab x.hv x.ev) 1 v' = htF T.bucket.ab v' x.ev := funext fun i => by
    unfold upd htF
    by_cases e : i = 1
    · subst e; rfl
    · simp [e]; rfl
  have e2 : (fun d => if d = T.nB then [Value.int .i64 (c : Nat)] else headF x.C d) = headF { x.C with h := fun j => if j = T.nB then c else x.C.h j } := funext fun d => by
    unfold headF
    by_cases e : d = T.nB <;> simp [e]
  rw [e1, e2] at h8
  exact h8

theorem info_num : (Tryd.prog.info? 3).map (fun i => (i.zero, i.size, i.bytes)) = some (some (.int .i64 0), 1, 8) := by kernel_rfl
theorem Has.madeTable (w : World) (ab : Nat) : Has [] w (w.alloc (.cells #[.pointer (some ⟨ab, 0, none⟩), .slice none 0 0, .slice none 0 0] 65)) (.blk w.heap.size 3 65 (htF ab (.slice none 0 0) (.slice none 0 0))) :=
  Has.madeBlk _ _ _ 3 rfl (fun i hi => match i, hi with | 0, _ => rfl | 1, _ => rfl | 2, _ => rfl)

theorem new_start {ab size : Nat} (hs : size ≤ 65536) (h : Has o w0 w (.arena ab ⟨size, fun _ => none, 0⟩)) :
    Has o w0 (w.alloc (.cells #[.pointer (some ⟨ab, 0, none⟩), .slice none 0 0, .slice none 0 0] 65)) (.table w.heap.size (newHt ab size 0)) := by
  have h1 := (h.beside (Has.madeTable w ab)).swap
  have h2 := h1.beside ((Has.rowsNil _ 3 1 (headF ⟨fun _ => 0, fun _ => 0⟩)).beside (Has.rowsNil _ 73 3 (entF ⟨fun _ => 0, fun _ => 0⟩ (newHt ab size 0))))
  exact Has.htShut (x := ⟨.slice none 0 0, .slice none 0 0, ⟨size, fun _ => none, 0⟩, ⟨fun _ => 0, fun _ => 0⟩⟩) (newHt_rep ab size hs) h2

set_option maxHeartbeats 4000000 in
set_option maxRecDepth 100000 in
theorem new_table {ab size n : Nat} (hs : size ≤ 65536) (h1 : 1 ≤ n) (h2 : n ≤ 256) (h3 : n ≤ size) (h : Has o w0 w (.arena ab ⟨size, fun _ => none, 0⟩)) (hT : TabAt w0) (ho : 0 ∉ o) :
    Calls Tryd.prog 18 #[.pointer (some ⟨ab, 0, none⟩), .int .i64 n] w fun e w' => ∃ b, e = .returned (.tuple #[.pointer (some ⟨b, 0, none⟩), .int .i64 0]) ∧ Has o w0 w' (.table b (newHt ab size n)) := by
  have HX := Lib.hid (new_start hs h)
  have HT := Lib.hid hT
  have HO := Lib.hid ho
  obtain ⟨i0, hi0, hz0, hz1, hz2⟩ := info_parts info_num
  have d1 : decide ((n : Int) < 1) = false := by simp; omega
  have d2 : decide ((n : Int) > 256) = false := by simp; omega
  have d2' : decide (256 < (n : Int)) = false := by simp; omega
  clear h hT ho
  go_enter Tryd.func18, Tryd.ntmps18
  go_wp2_with fail
  generalize hbb : w.heap.size = tb at *
  go_loopg [23] n (fun k iv wr => ∃ i : Nat, i ≤ n ∧ k = n - i ∧ iv = .int .i64 i ∧ Has o w0 wr (.table tb (newHt ab size i)))
  case atStart => exact ⟨0, Nat.zero_le _, rfl, rfl, HX.out⟩
  case round =>
    clear HX
    obtain ⟨i, hi, hk, rfl, hX⟩ := hrel
    have HKK := Lib.hid hk
    by_cases hlt : i < n
    · have hdd : decide ((i : Int) < (n : Int)) = true := by simp; omega
      have hdd' : decide (i < n) = true := by simp; omega
      obtain ⟨x, hr, h4⟩ := hX.htOpen
      have HA := Lib.hid (ht_alloc h4 hr HT.out HO.out (by show i < size; omega))
      have HR := Lib.hid hr
      clear hk hX h4 hr
      go_wp2_with fail
      refine HA.out.mono ?_
      rintro e w2 ⟨c, rfl, hc, hg, h5⟩
      obtain ⟨c0, c1, c2⟩ := HtP.fields h5
      obtain ⟨o6, h6⟩ := HtP.heads h5
      have HROW := Lib.hid h6.rowsOwn
      have HH := Lib.hid h5
      have HRB := Lib.hid (HR.out.bucket hc hg)
      clear h5 h6 hc hg HA
      go_wp2_with (at_builtin; refine wpList_append_new rfl (.tmp 50) (.tmp 52) 34 rfl 3 i0 (.int .i64 0) 1 8 Tryd.underlying34 hi0 hz0 hz1 hz2 rfl (by decide) _ _ _ rfl (HROW.out.alloc _) ⟨_, 0, none⟩ 1 1 [.int .i64 (c : Nat)] rfl rfl (cell_one _ _ _ _ (by simp)) (by simp [Value.oneCell']) (by simp only [maxLen, newHt]; omega) (by simp only [newHt]; omega) ?_)
      intro v' w5 happ
      obtain ⟨gv, vcap, rfl⟩ : ∃ gv vcap, v' = .slice (some ⟨gv, 0, none⟩) ((newHt ab size i).nB + 1) vcap := by
        rcases rowN_open happ.row with ⟨_, h0⟩ | ⟨gv, vc, e, _⟩
        · omega
        · exact ⟨gv, vc, e⟩
      obtain ⟨y1, z1, hP⟩ := htp_moreHead _ HH.out happ
      have HP := Lib.hid (Has.htShut (x := { x with hv := .slice (some ⟨gv, 0, none⟩) ((newHt ab size i).nB + 1) vcap, S := x.S.put c 0, C := { x.C with h := fun j => if j = (newHt ab size i).nB then c else x.C.h j } }) HRB.out hP)
      clear hP happ HH HROW
      go_wp2_with fail
      go_roundg (n - (i + 1))
      case measure => rw [HKK.out]; omega
      case rel => exact ⟨i + 1, by omega, rfl, by go_num, by rw [← newHt_bucket]; exact HP.out⟩
    · have hdd : decide ((i : Int) < (n : Int)) = false := by simp; omega
      have hdd' : decide (i < n) = false := by simp; omega
      obtain rfl : i = n := by omega
      have HX := Lib.hid hX
      clear hk hX
      go_wp2_with fail
      go_ret2
      exact ⟨_, rfl, HX.out⟩

set_option maxHeartbeats 1000000 in
set_option maxRecDepth 100000 in
theorem new_no (w : World) (p : Addr) (n : Int) (h : n < 1 ∨ 256 < n) :
    Calls Tryd.prog 18 #[.pointer (some p), .int .i64 n] w fun e w' => e = .returned (.tuple #[.pointer none, .int .i64 2]) ∧ w' = w := by
  by_cases h1 : n < 1
  · have d1 : decide (n < 1) = true := by simpa using h1
    clear h
    go_enter Tryd.func18, Tryd.ntmps18
    go_wp2_with fail
    go_ret2
    exact ⟨rfl, rfl⟩
  · have d1 : decide (n < 1) = false := by simpa using h1
    have d2 : decide (n > 256) = true := by simp; omega
    have d2' : decide (256 < n) = true := by simp; omega
    clear h
    go_enter Tryd.func18, Tryd.ntmps18
    go_wp2_with fail
    go_ret2
    exact ⟨rfl, rfl⟩
end Go.Proofs.YtmldighidbfhhaaDoor
namespace Go.Proofs.YtmldighidbfhhaaDoor
open Go Go.RowKit
set_option linter.unusedVariables false

variable {o : List Nat} {w0 w : World} {b : Nat} {x : HtIx} {T : AHt} {ob : Nat} {tb : Option Addr} {q : AHop}

theorem entF_len (C : HCells) (T : AHt) (i : Nat) : (entF C T i).length = 3 := rfl
theorem headF_len (C : HCells) (i : Nat) : (headF C i).length = 1 := rfl

theorem HtP.entSlice (h : Has o w0 w (HtP b x T)) (hi : 0 < T.nE) : ∃ g cap, x.ev = .slice (some ⟨g, 0, none⟩) T.nE cap := by
  obtain ⟨o1, h1⟩ := HtP.ents h
  obtain ⟨g, cap, e, _⟩ := h1.rowsAt (entF_len _ _) hi
  exact ⟨g, cap, e⟩
theorem HtP.entCells (h : Has o w0 w (HtP b x T)) {i : Nat} (hi : i < T.nE) {g cap : Nat} (hev : x.ev = .slice (some ⟨g, 0, none⟩) T.nE cap) :
    w.cell? ⟨g, i * 3, none⟩ = some (.string (T.E i).key) ∧ w.cell? ⟨g, i * 3 + 1, none⟩ = some (.int .i64 (T.E i).ref) ∧ w.cell? ⟨g, i * 3 + 2, none⟩ = some (.int .i64 (x.C.e i)) ∧ T.nE ≤ maxLen := by
  obtain ⟨o1, h1⟩ := HtP.ents h
  obtain ⟨g', cap', e, hc, _⟩ := h1.rowsAt (entF_len _ _) hi
  rw [hev] at e
  obtain ⟨rfl, rfl⟩ : g = g' ∧ cap = cap' := by simpa using e
  exact ⟨hc 0 _ rfl, hc 1 _ rfl, hc 2 _ rfl, h1.rowsSmall⟩
theorem HtP.headCell (h : Has o w0 w (HtP b x T)) {i : Nat} (hi : i < T.nB) : ∃ g cap, x.hv = .slice (some ⟨g, 0, none⟩) T.nB cap ∧ w.cell? ⟨g, i, none⟩ = some (.int .i64 (x.C.h i)) := by
  obtain ⟨o1, h1⟩ := HtP.heads h
  obtain ⟨g, cap, e, hc, _⟩ := h1.rowsAt (headF_len _) hi
  refine ⟨g, cap, e, ?_⟩
  have := hc 0 _ rfl
  rwa [Nat.mul_one, Nat.add_zero] at this

set_option maxHeartbeats 1000000 in
set_option maxRecDepth 100000 in
theorem at_walk (w : World) (g m cap i : Nat) (hi : i < m) (hm : m ≤ 9223372036854775807) :
    Calls Tryd.prog 29 #[.slice (some ⟨g, 0, none⟩) m cap, .int .u64 ((i : Int) + 1)] w fun e w' => e = .returned (.pointer (some ⟨g, i * 3, none⟩)) ∧ w' = w := by
  have hb : 0 ≤ (i : Int) ∧ (i : Int) < (m : Int) := by omega
  go_enter Tryd.func29, Tryd.ntmps29
  go_wp2_with fail
  go_ret
  exact ⟨rfl, rfl⟩

theorem htp_moreEnt {w5 : World} {v' : Value} {c : Nat} {key : ByteArray} {ref : Int} (ob : Obj) (h : Has o w0 w (HtP b x T))
    (happ : Appended (w.alloc ob) w5 73 3 x.ev v' (T.nE + 1) (flatN T.nE (entF x.C T) ++ [.string key, .int .i64 ref, .int .i64 (c : Nat)])) :
    w5.cell? ⟨b, 2, none⟩ = some x.ev ∧ w5.frozen? ⟨b, 2, none⟩ = false ∧ Has o w0 (w5.setCell ⟨b, 2, none⟩ v') (HtP b { x with ev := v', C := { x.C with e := fun j => if j = T.nE then c else x.C.e j } } (T.add key ref)) := by
  obtain ⟨o2, h2, _, _, b2⟩ := h.right
  obtain ⟨o3, h3, _, _, b3⟩ := h2.right
  have h4 := Has.rowsMore ob h3 happ
  have h5 := b2 _ _ (b3 _ _ h4)
  obtain ⟨o6, h6, _, _, b6⟩ := h5.left
  obtain ⟨o7, h7, _, _, b7⟩ := h6.left
  obtain ⟨c1, z, hput⟩ := h7.blkAt (i := 2) (by omega)
  refine ⟨c1, z, ?_⟩
  have h8 := b6 _ _ (b7 _ _ (blk_congr (g := htF (T.add key ref).ab x.hv v') (hput v') fun i hi => by
    unfold upd htF
    rcases (by omega : i = 0 ∨ i = 1 ∨ i = 2) with rfl | rfl | rfl <;> rfl))
  have e2 : (fun d => if d = T.nE then [Value.string key, Value.int .i64 ref, Value.int .i64 (c : Nat)] else entF x.C T d) = entF { x.C with e := fun j => if j = T.nE then c else x.C.e j } (T.add key ref) := funext fun d => by
    unfold entF AHt.add
    by_cases e : d = T.nE <;> simp [e]
  rw [e2] at h8
  exact h8

/-- An append to a row of one's own, as one step of a region that draws its order. -/
theorem step_append_new {P : Program} {ops : Array Oper} {o : Oper} {a : Act} {w : World} {K : Act → World → Prop} {Q : Exit → Act → World → Prop} {E : Prop}
    (hg : o.guard = none) (s x : Operand) (t : TypeId) (hop : o.op = Op.call { callee := Callee.builtin Builtin.append, args := #[s, x], argTypes := #[t, t] })
    (e : TypeId) (i : TypeInfo) (z : Value) (size bytes : Nat) (ht : P.underlying t = some (.slice e)) (hi : P.info? e = some i) (hz : i.zero = some z)
    (hsize : i.size = size) (hby : i.bytes = bytes) (hzs : z.cells.size = size) (hsz : 0 < size)
    (v : Value) (n : Nat) (xs : List Value) (hs : a.eval s = v) (hown : w.ownsRow 0 e size v n xs)
    (ad : Addr) (m c : Nat) (news : List Value) (hx : a.eval x = .slice (some ad) m c) (hl : news.length = m * size) (hnews : ∀ j u, news[j]? = some u → w.cell? (ad.add j) = some u) (h1 : ∀ u ∈ news, u.oneCell' = true)
    (h63 : n + m ≤ maxLen) (hbytes : (n + m) * bytes ≤ 140737488355328)
    (hK : ∀ v' w', Appended w w' e size v v' (n + m) (xs ++ news) → K (a.put o.dst v') w') :
    if Region.wanted o (yielded ops a.tmps) = true then Oper.wp P o a w K Q else E := by
  have hw : Region.wanted o (yielded ops a.tmps) = true := by simp [Region.wanted, hg]
  rw [if_pos hw]
  obtain ⟨v', w', hrun, h2⟩ := run_append_new (P := P) w t o.type e i z size bytes ht hi hz hsize hby hzs hsz v n xs hown ad m c news hl hnews h1 h63 hbytes
  unfold Oper.wp
  simp [execOp, hop, resolve, invoke, builtin, hs, hx, hrun, Result.andThen]
  exact hK v' w' h2

theorem info_entry : (Tryd.prog.info? 73).map (fun i => (i.zero, i.size, i.bytes)) = some (some (.agg #[.string ⟨#[]⟩, .int .i64 0, .int .i64 0]), 3, 32) := by kernel_rfl
theorem cells_three (w : World) (n : Nat) (u1 u2 u3 : Value) (t : TypeId) (hn : n = w.heap.size) : ∀ j u, [u1, u2, u3][j]? = some u → (w.alloc (.cells #[u1, u2, u3] t)).cell? ((⟨n, 0, none⟩ : Addr).add j) = some u := by
  subst hn
  intro j u hu
  have h : j < 3 := by have := (List.getElem?_eq_some_iff.1 hu).1; simpa using this
  have hb := Blk.made w #[u1, u2, u3] t (fun i => [u1, u2, u3].getD i default) 3 rfl (fun i hi => match i, hi with | 0, _ => rfl | 1, _ => rfl | 2, _ => rfl)
  rw [addr0, hb.cell h, List.getD_eq_getElem?_getD, hu]
  rfl

set_option maxHeartbeats 4000000 in
set_option maxRecDepth 100000 in
theorem hadd_walk (h : Has o w0 w (HtP b x T)) (hn : T.nE ≤ 65536) (key : ByteArray) (ref : Int) (c : Nat) :
    Calls Tryd.prog 44 #[.pointer (some ⟨b, 2, none⟩), .agg #[.string key, .int .i64 ref, .int .i64 c]] w fun e w' => e = .returned (.int .u64 ((T.nE : Int) + 1)) ∧ ∃ ev', Has o w0 w' (HtP b { x with ev := ev', C := { x.C with e := fun j => if j = T.nE then c else x.C.e j } } (T.add key ref)) := by
  have h2 := h.alloc (.cells #[.string key, .int .i64 ref, .int .i64 (c : Nat)] 73)
  obtain ⟨_, _, c2⟩ := HtP.fields h2
  obtain ⟨o3, h3⟩ := HtP.ents h2
  have HROW := Lib.hid h3.rowsOwn
  have HXD := Lib.hid (h2.quiet ((Kept.refl [] _).drew))
  obtain ⟨i0, hi0, hz0, hz1, hz2⟩ := info_parts info_entry
  have c2a : ((w.alloc (.cells #[.string key, .int .i64 ref, .int .i64 (c : Nat)] 73)).alloc (.cells #[.string key, .int .i64 ref, .int .i64 (c : Nat)] 73)).cell? ⟨b, 2, none⟩ = some x.ev := ((Kept.refl [] _).alloc _).cell c2 (by simp)
  have h9 : T.nE ≤ 9223372036854775807 := by omega
  clear h h2 h3
  go_enter Tryd.func44, Tryd.ntmps44
  go_wp2_with fail
  have HROW2 := Lib.hid (show (w.alloc (.cells #[.string key, .int .i64 ref, .int .i64 (c : Nat)] 73)).drew.ownsRow 0 73 3 x.ev T.nE (flatN T.nE (entF x.C T)) from HROW.out)
  go_region_law
    (refine step_append_new rfl (.tmp 8) (.tmp 10) 63 rfl 73 i0 (.agg #[.string ⟨#[]⟩, .int .i64 0, .int .i64 0]) 3 32 Tryd.underlying63 hi0 hz0 hz1 hz2 rfl (by decide) x.ev T.nE (flatN T.nE (entF x.C T)) rfl (HROW2.out.alloc _) ⟨_, 0, none⟩ 1 1 [.string key, .int .i64 ref, .int .i64 (c : Nat)] rfl rfl (cells_three _ _ _ _ _ _ (by simp)) (by simp [Value.oneCell']) (by simp only [maxLen]; omega) (by omega) ?_
     intro v' w5 happ
     obtain ⟨y2, z2, hP⟩ := htp_moreEnt _ HXD.out happ
     obtain ⟨gv, vcap, rfl⟩ : ∃ gv vcap, v' = .slice (some ⟨gv, 0, none⟩) (T.nE + 1) vcap := by
       rcases rowN_open happ.row with ⟨_, h0⟩ | ⟨gv, vc, e, _⟩
       · omega
       · exact ⟨gv, vc, e⟩
     obtain ⟨_, _, u2⟩ := HtP.fields hP
     have HP := Lib.hid hP
     clear happ hP)
  all_goals (
    go_wp2_with fail
    go_ret
    exact ⟨rfl, _, HP.out⟩)
end Go.Proofs.YtmldighidbfhhaaDoor
namespace Go.Proofs.YtmldighidbfhhaaDoor
open Go Go.RowKit
set_option linter.unusedVariables false

variable {o : List Nat} {w0 w : World} {b : Nat} {x : HtIx} {T : AHt} {ob : Nat} {tb : Option Addr} {q : AHop}

/-- A table and an operation upon it. -/
noncomputable def HtOp (b : Nat) (x : HtIx) (T : AHt) (ob : Nat) (q : AHop) : Part := (HtP b x T).sep (.hop ob (some ⟨b, 0, none⟩) q)

theorem ho_tab (h : Has o w0 w (HtOp b x T ob q)) : ∃ o', Has o' w w (HtP b x T) ∧ (∀ y ∈ o', y ∈ o ∨ w0.heap.size ≤ y) ∧ ∀ w' x' T', Has o' w w' (HtP b x' T') → Has o w0 w' (HtOp b x' T' ob q) := by
  obtain ⟨o1, h1, p1, _, b1⟩ := Has.left (A := HtP b x T) h
  exact ⟨o1, h1, p1, fun w' x' T' h' => b1 _ _ h'⟩
theorem ho_op (h : Has o w0 w (HtOp b x T ob q)) : ∃ o', Has o' w w (.hop ob (some ⟨b, 0, none⟩) q) ∧ ∀ w' q', Has o' w w' (.hop ob (some ⟨b, 0, none⟩) q') → Has o w0 w' (HtOp b x T ob q') := by
  obtain ⟨o1, h1, p1, _, b1⟩ := Has.right (A := HtP b x T) h
  exact ⟨o1, h1, fun w' q' h' => b1 _ _ h'⟩

theorem ho_next (h : Has o w0 w (HtOp b x T ob q)) (v : Int) : Has o w0 (w.setCell ⟨ob, 4, none⟩ (.int .i64 v)) (HtOp b x T ob { q with next := v }) := by
  obtain ⟨o1, h1, b1⟩ := ho_op h
  exact b1 _ _ (hop_next h1 v)
theorem ho_head (h : Has o w0 w (HtOp b x T ob q)) (v : Int) : Has o w0 (w.setCell ⟨ob, 5, none⟩ (.int .u64 v)) (HtOp b x T ob { q with head := v }) := by
  obtain ⟨o1, h1, b1⟩ := ho_op h
  exact b1 _ _ (hop_head h1 v)
theorem ho_cur (h : Has o w0 w (HtOp b x T ob q)) (v : Int) : Has o w0 (w.setCell ⟨ob, 6, none⟩ (.int .u64 v)) (HtOp b x T ob { q with cur := v }) := by
  obtain ⟨o1, h1, b1⟩ := ho_op h
  exact b1 _ _ (hop_cur h1 v)
theorem ho_own (h : Has o w0 w (HtOp b x T ob q)) (v : Int) : Has o w0 (w.setCell ⟨ob, 7, none⟩ (.int .u64 v)) (HtOp b x T ob { q with own := v }) := by
  obtain ⟨o1, h1, b1⟩ := ho_op h
  exact b1 _ _ (hop_own h1 v)
theorem ho_cells (h : Has o w0 w (HtOp b x T ob q)) : w.cell? ⟨ob, 0, none⟩ = some (.pointer (some ⟨b, 0, none⟩)) ∧ w.cell? ⟨ob, 1, none⟩ = some (.string q.key) ∧ w.cell? ⟨ob, 2, none⟩ = some (.int .i64 q.ref) ∧ w.cell? ⟨ob, 3, none⟩ = some (.bool q.puts) ∧
    w.cell? ⟨ob, 4, none⟩ = some (.int .i64 q.next) ∧ w.cell? ⟨ob, 5, none⟩ = some (.int .u64 q.head) ∧ w.cell? ⟨ob, 6, none⟩ = some (.int .u64 q.cur) ∧ w.cell? ⟨ob, 7, none⟩ = some (.int .u64 q.own) ∧ ∀ i, i < 10 → w.frozen? ⟨ob, i, none⟩ = false := by
  obtain ⟨o1, h1, _⟩ := ho_op h
  obtain ⟨c0, c1, c2, c3, c4, c5, c6, c7, _⟩ := hop_cells h1
  exact ⟨c0, c1, c2, c3, c4, c5, c6, c7, fun i hi => hop_free h1 i hi⟩
theorem ho_fields (h : Has o w0 w (HtOp b x T ob q)) : w.cell? ⟨b, 0, none⟩ = some (.pointer (some ⟨T.ab, 0, none⟩)) ∧ w.cell? ⟨b, 1, none⟩ = some x.hv ∧ w.cell? ⟨b, 2, none⟩ = some x.ev := by
  obtain ⟨o1, h1, _⟩ := ho_tab h
  exact HtP.fields h1
theorem ho_ends (h : Has o w0 w (HtOp b x T ob q)) (ref : Int) (had : Bool) (code : Int) :
    Calls Tryd.prog 36 #[.pointer (some ⟨ob, 0, none⟩), .int .i64 ref, .bool had, .int .i64 code] w fun e w' => e = .returned (.bool true) ∧ Has o w0 w' (HtOp b x T ob (q.ends ref had code)) := by
  obtain ⟨o1, h1, b1⟩ := ho_op h
  refine (ends_walk h1 ref had code).mono ?_
  rintro e w' ⟨rfl, h'⟩
  exact ⟨rfl, b1 _ _ h'⟩

set_option maxHeartbeats 1000000 in
set_option maxRecDepth 100000 in
theorem refused_no (h : Has o w0 w (HtOp b x T ob q)) (hk : keyB q.key = true) :
    Calls Tryd.prog 33 #[.pointer (some ⟨ob, 0, none⟩)] w fun e w' => e = .returned (.bool false) ∧ w' = w := by
  obtain ⟨c0, c1, _⟩ := ho_cells h
  have HK := Lib.hid (key_walk w q.key)
  rw [hk] at HK
  clear h
  go_enter Tryd.func33, Tryd.ntmps33
  go_wp2_with fail
  refine HK.out.mono ?_
  rintro e w' ⟨rfl, rfl⟩
  go_wp2_with fail
  go_ret
  exact ⟨rfl, rfl⟩

set_option maxHeartbeats 1000000 in
set_option maxRecDepth 100000 in
theorem found_none (w : World) (ob : Nat) :
    Calls Tryd.prog 37 #[.pointer (some ⟨ob, 0, none⟩), .int .u64 0] w fun e w' => e = .returned (.bool false) ∧ Kept [] w w' := by
  go_enter Tryd.func37, Tryd.ntmps37
  go_wp2_with fail
  go_quiet (fail)
  go_wp2_with fail
  go_ret
  exact ⟨rfl, (Kept.refl [] _).drewN _⟩

set_option maxHeartbeats 4000000 in
set_option maxRecDepth 100000 in
/-- An Insert that has come to a chain's end lays its entry. -/
theorem last_add (h : Has o w0 w (HtOp b x T ob q)) (hr : HtRep x.S x.C T) (hT : TabAt w0) (ho : 0 ∉ o) (hn : T.nE ≤ 65536) (hp : q.puts = true) (hw : q.own = 0) (hfree : T.used < T.size) :
    Calls Tryd.prog 38 #[.pointer (some ⟨ob, 0, none⟩)] w fun e w' => e = .returned (.bool false) ∧ ∃ x', HtRep x'.S x'.C (T.add q.key q.ref) ∧ Has o w0 w' (HtOp b x' (T.add q.key q.ref) ob { q with own := (T.nE : Int) + 1, next := 2 }) := by
  obtain ⟨c0, c1, c2, c3, c4, c5, c6, c7, zf⟩ := ho_cells h
  obtain ⟨f0, f1, f2⟩ := ho_fields h
  rw [hp] at c3
  rw [hw] at c7
  obtain ⟨o1, h1, p1, b1⟩ := ho_tab h
  have hTw : TabAt w := hT.kept h.keeps ho
  have HA := Lib.hid ((ht_alloc h1 hr hTw (tab_out hT ho p1) hfree).mono (R' := fun e w' => ∃ c, e = .returned (.tuple #[.int .i64 (c : Nat), .int .i64 0]) ∧ c < x.S.size ∧ x.S.get c = none ∧ Has o w0 w' (HtOp b { x with S := x.S.put c 0 } T ob q)) (by
    rintro e w' ⟨c, rfl, h2, h3, h4⟩
    exact ⟨c, rfl, h2, h3, b1 _ _ _ h4⟩))
  have HR := Lib.hid hr
  clear h h1 b1 hr hT ho p1 hTw hp hw
  go_enter Tryd.func38, Tryd.ntmps38
  go_wp2_with fail
  refine HA.out.mono ?_
  rintro e w2 ⟨c, rfl, hc, hg, h2⟩
  have HRA := Lib.hid (HR.out.add hc hg q.key q.ref)
  obtain ⟨c0, c1, c2, c3, c4, c5, c6, c7, zf2⟩ := ho_cells h2
  obtain ⟨f0, f1, f2⟩ := ho_fields h2
  have HX := Lib.hid h2
  have HAD := Lib.hid (fun (W : World) (hW : Has o w0 W (HtOp b { x with S := x.S.put c 0 } T ob q)) => show Calls Tryd.prog 44 #[.pointer (some ⟨b, 2, none⟩), .agg #[.string q.key, .int .i64 q.ref, .int .i64 (c : Nat)]] W fun e w' => e = .returned (.int .u64 ((T.nE : Int) + 1)) ∧ ∃ ev', Has o w0 w' (HtOp b { { x with S := x.S.put c 0 } with ev := ev', C := { x.C with e := fun j => if j = T.nE then c else x.C.e j } } (T.add q.key q.ref) ob q) by
    obtain ⟨o3, h3, _, b3⟩ := ho_tab hW
    refine (hadd_walk h3 hn q.key q.ref c).mono ?_
    rintro e w' ⟨rfl, ev', h'⟩
    exact ⟨rfl, ev', b3 _ _ _ h'⟩)
  clear h2 hc hg HA HR zf
  go_wp2_with fail
  go_region_held3 (fun w' => w'.cell? ⟨ob, 0, none⟩ = some (.pointer (some ⟨b, 0, none⟩)) ∧ w'.cell? ⟨ob, 1, none⟩ = some (.string q.key) ∧ w'.cell? ⟨ob, 2, none⟩ = some (.int .i64 q.ref))
    (first | exact ⟨c0, c1, c2⟩ | exact ⟨d0, d1, d2⟩ | exact ⟨e0, e1, e2⟩ | go_keep)
    (first | (go_at_call 44
              refine (HAD.out _ (HX.out.quiet ((Kept.refl _ _).drew))).mono ?_
              rintro e w4 ⟨rfl, ev', hX4⟩
              obtain ⟨d0, d1, d2, _, _, _, _, d7, zf4⟩ := ho_cells hX4
              have z7 := zf4 7 (by omega)
              have HX5 := Lib.hid (ho_own hX4 ((T.nE : Int) + 1))
              obtain ⟨e0, e1, e2, _, e4, _, _, _, zf5⟩ := ho_cells HX5.out
              clear hX4 zf4))
  all_goals (
    have z4 := zf5 4 (by omega)
    have HX6 := Lib.hid (ho_next HX5.out 2)
    clear zf5
    go_wp2_with fail
    go_ret
    exact ⟨rfl, { { x with S := x.S.put c 0 } with ev := ev', C := { x.C with e := fun j => if j = T.nE then c else x.C.e j } }, HRA.out, HX6.out⟩)

/-- A key's bucket. -/
def AHt.bk (T : AHt) (key : ByteArray) : Nat := (crcOf key % T.nB).toNat
theorem bk_eq (T : AHt) (key : ByteArray) (hB : 0 < T.nB) : crcOf key % (T.nB : Int) = (T.bk key : Int) ∧ T.bk key < T.nB := by
  have h1 := Int.emod_nonneg (crcOf key) (show (T.nB : Int) ≠ 0 by omega)
  have h2 := Int.emod_lt_of_pos (crcOf key) (show (0 : Int) < T.nB by omega)
  unfold AHt.bk
  omega

theorem ho_bucket (h : Has o w0 w (HtOp b x T ob q)) (hk : keyB q.key = true) (hB : 0 < T.nB) (hB9 : T.nB ≤ 256) :
    Calls Tryd.prog 9 #[.pointer (some ⟨b, 0, none⟩), .string q.key] w fun e w' => e = .returned (.int .i64 (T.bk q.key)) ∧ Kept [] w w' := by
  obtain ⟨o1, h1, _⟩ := ho_tab h
  have := bucket_key h1 q.key hk hB hB9
  rwa [(bk_eq T q.key hB).1] at this

theorem ho_load (h : Has o w0 w (HtOp b x T ob q)) (hr : HtRep x.S x.C T) (l : HLoc) (v : Int) (hl : T.at_ l = some v) :
    Calls Tryd.prog 28 #[.pointer (some ⟨T.ab, 0, none⟩), .int .i64 (x.C.of l)] w fun e w' => e = .returned (.tuple #[.int .u64 v, .int .i64 0]) ∧ Has o w0 w' (HtOp b { x with S := x.S.step } T.step ob q) := by
  obtain ⟨o1, h1, _, b1⟩ := ho_tab h
  refine (ht_load h1 hr l v hl).mono ?_
  rintro e w' ⟨rfl, h'⟩
  exact ⟨rfl, b1 _ _ _ h'⟩
theorem ho_store (h : Has o w0 w (HtOp b x T ob q)) (hr : HtRep x.S x.C T) (l : HLoc) (u v : Int) (hl : T.at_ l = some u) :
    Calls Tryd.prog 34 #[.pointer (some ⟨T.ab, 0, none⟩), .int .i64 (x.C.of l), .int .u64 v] w fun e w' => e = .returned (.int .i64 0) ∧ Has o w0 w' (HtOp b { x with S := x.S.step.put (x.C.of l) v } (T.step.set l v) ob q) := by
  obtain ⟨o1, h1, _, b1⟩ := ho_tab h
  refine (ht_store h1 hr l u v hl).mono ?_
  rintro e w' ⟨rfl, h'⟩
  exact ⟨rfl, b1 _ _ _ h'⟩
theorem ho_cas (h : Has o w0 w (HtOp b x T ob q)) (hr : HtRep x.S x.C T) (l : HLoc) (u v : Int) (hl : T.at_ l = some u) :
    Calls Tryd.prog 35 #[.pointer (some ⟨T.ab, 0, none⟩), .int .i64 (x.C.of l), .int .u64 u, .int .u64 v] w fun e w' => e = .returned (.tuple #[.bool true, .int .i64 0]) ∧ Has o w0 w' (HtOp b { x with S := x.S.step.put (x.C.of l) v } (T.step.set l v) ob q) := by
  obtain ⟨o1, h1, _, b1⟩ := ho_tab h
  refine (ht_cas h1 hr l u v hl).mono ?_
  rintro e w' ⟨rfl, h'⟩
  exact ⟨rfl, b1 _ _ _ h'⟩

theorem at_head {i : Nat} (hi : i < T.nB) : T.at_ (.head i) = some (T.H i) := by
  show (if i < T.nB then some (T.H i) else none) = _
  rw [if_pos hi]

set_option maxHeartbeats 8000000 in
set_option maxRecDepth 100000 in
/-- The first step of an Insert upon an empty bucket. -/
theorem step_first (h : Has o w0 w (HtOp b x T ob q)) (hr : HtRep x.S x.C T) (hT : TabAt w0) (ho : 0 ∉ o) (hk : keyB q.key = true) (hB : 0 < T.nB) (hB9 : T.nB ≤ 256) (hn : T.nE ≤ 65536)
    (hx : q.next = 0) (hp : q.puts = true) (hw : q.own = 0) (hfree : T.used < T.size) (hh : T.H (T.bk q.key) = 0) :
    Calls Tryd.prog 21 #[.pointer (some ⟨ob, 0, none⟩)] w fun e w' => e = .returned (.bool false) ∧ ∃ x', HtRep x'.S x'.C (T.step.add q.key q.ref) ∧ Has o w0 w' (HtOp b x' (T.step.add q.key q.ref) ob { q with head := 0, cur := 0, own := (T.nE : Int) + 1, next := 2 }) := by
  obtain ⟨c0, c1, c2, c3, c4, c5, c6, c7, zf⟩ := ho_cells h
  obtain ⟨f0, f1, f2⟩ := ho_fields h
  obtain ⟨hkk, hkb⟩ := bk_eq T q.key hB
  obtain ⟨_, ht, _, _⟩ := ho_tab h
  obtain ⟨g, cap, hhv, f3⟩ := HtP.headCell ht hkb
  rw [hx] at c4
  rw [hhv] at f1
  have HRF := Lib.hid (refused_no h hk)
  have HBK := Lib.hid (fun (W : World) (hW : Has o w0 W (HtOp b x T ob q)) => ho_bucket hW hk hB hB9)
  have hl : T.at_ (.head (T.bk q.key)) = some 0 := by rw [at_head hkb, hh]
  have HLD := Lib.hid (fun (W : World) (hW : Has o w0 W (HtOp b x T ob q)) => ho_load hW hr _ 0 hl)
  have HX := Lib.hid h
  have hb : 0 ≤ (T.bk q.key : Int) ∧ (T.bk q.key : Int) < (T.nB : Int) := by omega
  have HR := Lib.hid hr.step
  have HT := Lib.hid hT
  have HO := Lib.hid ho
  have HQ := Lib.hid (And.intro hx (And.intro hp (And.intro hw hfree)))
  generalize hkv : T.bk q.key = k at *
  clear h hr ht hl zf hh hhv hkk hkv hT ho hp hw hfree hx hk
  go_enter Tryd.func21, Tryd.ntmps21
  go_wp2_with fail
  refine wp_scope_ahead 0 rfl ?_
  go_wp2_with fail
  refine HRF.out.mono ?_
  rintro e w1 ⟨rfl, rfl⟩
  go_wp2_with fail
  go_region_held (fun w' => w'.cell? ⟨ob, 0, none⟩ = some (.pointer (some ⟨b, 0, none⟩)) ∧ w'.cell? ⟨ob, 1, none⟩ = some (.string q.key) ∧ w'.cell? ⟨b, 0, none⟩ = some (.pointer (some ⟨T.ab, 0, none⟩)) ∧ w'.cell? ⟨b, 1, none⟩ = some (.slice (some ⟨g, 0, none⟩) T.nB cap) ∧ w'.cell? ⟨g, k, none⟩ = some (.int .i64 (x.C.h k)))
    (first | exact ⟨c0, c1, f0, f1, f3⟩ | exact ⟨d0, d1, d2, d3, d4⟩ | go_keep)
    (first | (go_at_call 9
              refine (HBK.out _ (HX.out.quiet ((Kept.refl _ _).drew))).mono ?_
              rintro e w4 ⟨rfl, hk4⟩
              have d0 := hk4.cell (b := ob) (i := 0) c0 (by simp)
              have d1 := hk4.cell (b := ob) (i := 1) c1 (by simp)
              have d2 := hk4.cell (b := b) (i := 0) f0 (by simp)
              have d3 := hk4.cell (b := b) (i := 1) f1 (by simp)
              have d4 := hk4.cell (b := g) (i := k) f3 (by simp)
              have HX4 := Lib.hid ((HX.out.quiet ((Kept.refl _ _).drew)).quiet hk4)
              clear hk4))
  obtain ⟨_, _, _, _, d5, _, _, _, zf4⟩ := ho_cells HX4.out
  rw [HQ.out.1] at d5
  have z5 := zf4 5 (by omega)
  have HL4 := Lib.hid (HLD.out _ HX4.out)
  clear zf4
  go_wp2_with fail
  refine HL4.out.mono ?_
  rintro e w5 ⟨rfl, hX5⟩
  obtain ⟨_, _, _, _, _, _, _, _, zf5⟩ := ho_cells hX5
  have y5 := zf5 5 (by omega)
  have HX6 := Lib.hid (ho_head hX5 0)
  obtain ⟨_, _, _, _, _, g5, g6, _, zf6⟩ := ho_cells HX6.out
  have y6 := zf6 6 (by omega)
  have HX7 := Lib.hid (ho_cur HX6.out 0)
  obtain ⟨_, _, _, _, _, _, h6, _, _⟩ := ho_cells HX7.out
  have HF := Lib.hid (found_none ((w5.setCell ⟨ob, 5, none⟩ (.int .u64 0)).setCell ⟨ob, 6, none⟩ (.int .u64 0)) ob)
  clear hX5 zf5 zf6
  go_wp2_with fail
  go_step3
  refine And.intro rfl ?_
  show Code.wp _ _ _ _ _
  go_wp2_with fail
  refine HF.out.mono ?_
  rintro e w7 ⟨rfl, hk7⟩
  have HX8 := Lib.hid (HX7.out.quiet hk7)
  obtain ⟨_, _, _, i3, _, _, i6, i7, _⟩ := ho_cells HX8.out
  have HLA := Lib.hid (last_add HX8.out HR.out HT.out HO.out hn HQ.out.2.1 HQ.out.2.2.1 HQ.out.2.2.2)
  clear hk7
  go_wp2_with fail
  refine HLA.out.mono ?_
  rintro e w9 ⟨rfl, x', hr', hX9⟩
  have HX9 := Lib.hid hX9
  have HR9 := Lib.hid hr'
  clear hX9 hr'
  go_wp2_with fail
  rw [Exit.jump_ret]
  go_ret
  exact ⟨rfl, x', HR9.out, HX9.out⟩
end Go.Proofs.YtmldighidbfhhaaDoor
