/- The table's arena, its entries; an operation's block; the calls that end an operation. -/
import Derived.Test.YtmldighidbfhhaaDoorHashBucket
import Derived.OwnWalk
namespace Go.Proofs.YtmldighidbfhhaaDoor
open Go Go.RowKit
set_option linter.unusedVariables false

variable {o : List Nat} {w0 w : World} {b : Nat} {x : HtIx} {T : AHt}

theorem htp_arena (h : Has o w0 w (HtP b x T)) : ∃ o', OwnF o' w w T.ab x.S ∧ (∀ y ∈ o', y ∈ o ∨ w0.heap.size ≤ y) ∧ ∀ w' S' T', T'.ab = T.ab → HtRows x T' = HtRows x T → OwnF o' w w' T.ab S' → Has o w0 w' (HtP b { x with S := S' } T') := by
  obtain ⟨o1, h1, p1, _, b1⟩ := h.left
  obtain ⟨o2, h2, p2, q2, b2⟩ := h1.right
  refine ⟨o2, h2, fun y hy => ?_, fun w' S' T' e1 e2 hS => ?_⟩
  · rcases p2 y hy with h | h
    · exact p1 y h
    · have := q2 y hy; omega
  · have := b1 _ _ (b2 _ (.arena T.ab S') hS)
    show Has o w0 w' (((Part.blk b 3 65 (htF T'.ab x.hv x.ev)).sep (.arena T'.ab S')).sep (HtRows x T'))
    rw [e1, e2]; exact this

theorem htRows_set (x : HtIx) (T : AHt) (l : HLoc) (v : Int) : HtRows x (T.set l v) = HtRows x T := by
  unfold HtRows
  rw [T.nB_set, T.nE_set]
  have e1 : entF x.C (T.set l v) = entF x.C T := funext fun i => by unfold entF; rw [T.key_set, T.ref_set]
  rw [e1]
theorem htRows_free (x : HtIx) (T : AHt) (i : Nat) : HtRows x (T.free i) = HtRows x T := by
  have e1 : entF x.C (T.free i) = entF x.C T := funext fun j => by
    unfold entF AHt.free
    by_cases e : j = i <;> simp [e]
  unfold HtRows
  rw [e1]; rfl

theorem ht_load (h : Has o w0 w (HtP b x T)) (hr : HtRep x.S x.C T) (l : HLoc) (v : Int) (hl : T.at_ l = some v) :
    Calls Tryd.prog 28 #[.pointer (some ⟨T.ab, 0, none⟩), .int .i64 (x.C.of l)] w fun e w' => e = .returned (.tuple #[.int .u64 v, .int .i64 0]) ∧ Has o w0 w' (HtP b { x with S := x.S.step } T.step) := by
  obtain ⟨o', hO, _, back⟩ := htp_arena h
  refine (own_load hO _ v (hr.rep.has l v hl)).mono ?_
  rintro e w' ⟨rfl, h'⟩
  exact ⟨rfl, back _ _ T.step rfl rfl h'⟩
theorem ht_store (h : Has o w0 w (HtP b x T)) (hr : HtRep x.S x.C T) (l : HLoc) (u v : Int) (hl : T.at_ l = some u) :
    Calls Tryd.prog 34 #[.pointer (some ⟨T.ab, 0, none⟩), .int .i64 (x.C.of l), .int .u64 v] w fun e w' => e = .returned (.int .i64 0) ∧ Has o w0 w' (HtP b { x with S := x.S.step.put (x.C.of l) v } (T.step.set l v)) := by
  obtain ⟨o', hO, _, back⟩ := htp_arena h
  refine (own_store hO _ u v (hr.rep.has l u hl)).mono ?_
  rintro e w' ⟨rfl, h'⟩
  exact ⟨rfl, back _ _ (T.step.set l v) (by cases l <;> rfl) (htRows_set x T.step l v) h'⟩
theorem ht_cas (h : Has o w0 w (HtP b x T)) (hr : HtRep x.S x.C T) (l : HLoc) (u v : Int) (hl : T.at_ l = some u) :
    Calls Tryd.prog 35 #[.pointer (some ⟨T.ab, 0, none⟩), .int .i64 (x.C.of l), .int .u64 u, .int .u64 v] w fun e w' => e = .returned (.tuple #[.bool true, .int .i64 0]) ∧ Has o w0 w' (HtP b { x with S := x.S.step.put (x.C.of l) v } (T.step.set l v)) := by
  obtain ⟨o', hO, _, back⟩ := htp_arena h
  refine (own_cas hO _ u v (hr.rep.has l u hl)).mono ?_
  rintro e w' ⟨rfl, h'⟩
  exact ⟨rfl, back _ _ (T.step.set l v) (by cases l <;> rfl) (htRows_set x T.step l v) h'⟩
theorem ht_cas_not (h : Has o w0 w (HtP b x T)) (hr : HtRep x.S x.C T) (l : HLoc) (u old v : Int) (hl : T.at_ l = some u) (hne : u ≠ old) :
    Calls Tryd.prog 35 #[.pointer (some ⟨T.ab, 0, none⟩), .int .i64 (x.C.of l), .int .u64 old, .int .u64 v] w fun e w' => e = .returned (.tuple #[.bool false, .int .i64 0]) ∧ Has o w0 w' (HtP b { x with S := x.S.step } T.step) := by
  obtain ⟨o', hO, _, back⟩ := htp_arena h
  refine (own_cas_not hO _ u old v (hr.rep.has l u hl) hne).mono ?_
  rintro e w' ⟨rfl, h'⟩
  exact ⟨rfl, back _ _ T.step rfl rfl h'⟩
theorem ht_free (h : Has o w0 w (HtP b x T)) (hr : HtRep x.S x.C T) (i : Nat) (u : Int) (hl : T.at_ (.next i) = some u) :
    Calls Tryd.prog 32 #[.pointer (some ⟨T.ab, 0, none⟩), .int .i64 (x.C.e i)] w fun e w' => e = .returned (.int .i64 0) ∧ Has o w0 w' (HtP b { x with S := x.S.drop (x.C.e i) } (T.free i)) := by
  obtain ⟨o', hO, _, back⟩ := htp_arena h
  refine (own_free hO _ u (hr.rep.has (.next i) u hl)).mono ?_
  rintro e w' ⟨rfl, h'⟩
  exact ⟨rfl, back _ _ (T.free i) rfl (htRows_free x T i) h'⟩
theorem ht_alloc (h : Has o w0 w (HtP b x T)) (hr : HtRep x.S x.C T) (hT : TabAt w0) (ho : 0 ∉ o) (hfree : T.used < T.size) :
    Calls Tryd.prog 31 #[.pointer (some ⟨T.ab, 0, none⟩)] w fun e w' => ∃ c, e = .returned (.tuple #[.int .i64 (c : Nat), .int .i64 0]) ∧ c < x.S.size ∧ x.S.get c = none ∧ Has o w0 w' (HtP b { x with S := x.S.put c 0 } T) := by
  obtain ⟨c, hc, hg, hl⟩ := least_free x.S.get x.S.size (by rw [hr.rep.count, hr.size]; exact hfree)
  have hTw : TabAt w := hT.kept h.keeps ho
  obtain ⟨o', hO, p, back⟩ := htp_arena h
  refine (own_alloc hO hTw c hc hg hl (tab_out hT ho p)).mono ?_
  rintro e w' ⟨rfl, h'⟩
  exact ⟨c, rfl, hc, hg, back _ _ T rfl rfl h'⟩
theorem ht_alloc_full (h : Has o w0 w (HtP b x T)) (hr : HtRep x.S x.C T) (hfull : T.size ≤ T.used) :
    Calls Tryd.prog 31 #[.pointer (some ⟨T.ab, 0, none⟩)] w fun e w' => e = .returned (.tuple #[.int .i64 0, .int .i64 31]) ∧ Has o w0 w' (HtP b x T) := by
  obtain ⟨o', hO, p, back⟩ := htp_arena h
  refine (own_alloc_full hO ((cnt_full _ _).1 ?_)).mono ?_
  · have := cnt_le x.S.get x.S.size
    have := hr.rep.count
    have := hr.size
    omega
  rintro e w' ⟨rfl, h'⟩
  exact ⟨rfl, back _ _ T rfl rfl h'⟩

/-- An operation. -/
structure AHop where
  key : ByteArray
  ref : Int
  puts : Bool
  next : Int
  head : Int
  cur : Int
  own : Int
  had : Bool
  code : Int

def hopF (tb : Option Addr) (q : AHop) (i : Nat) : Value :=
  if i = 0 then .pointer tb else if i = 1 then .string q.key else if i = 2 then .int .i64 q.ref else if i = 3 then .bool q.puts else if i = 4 then .int .i64 q.next
  else if i = 5 then .int .u64 q.head else if i = 6 then .int .u64 q.cur else if i = 7 then .int .u64 q.own else if i = 8 then .bool q.had else .int .i64 q.code
noncomputable def Part.hop (ob : Nat) (tb : Option Addr) (q : AHop) : Part := .blk ob 10 69 (hopF tb q)

variable {ob : Nat} {tb : Option Addr} {q : AHop}

theorem hop_cells (h : Has o w0 w (.hop ob tb q)) : w.cell? ⟨ob, 0, none⟩ = some (.pointer tb) ∧ w.cell? ⟨ob, 1, none⟩ = some (.string q.key) ∧ w.cell? ⟨ob, 2, none⟩ = some (.int .i64 q.ref) ∧ w.cell? ⟨ob, 3, none⟩ = some (.bool q.puts) ∧
    w.cell? ⟨ob, 4, none⟩ = some (.int .i64 q.next) ∧ w.cell? ⟨ob, 5, none⟩ = some (.int .u64 q.head) ∧ w.cell? ⟨ob, 6, none⟩ = some (.int .u64 q.cur) ∧ w.cell? ⟨ob, 7, none⟩ = some (.int .u64 q.own) ∧ w.cell? ⟨ob, 8, none⟩ = some (.bool q.had) ∧ w.cell? ⟨ob, 9, none⟩ = some (.int .i64 q.code) := by
  refine ⟨?_, ?_, ?_, ?_, ?_, ?_, ?_, ?_, ?_, ?_⟩
  · exact (h.blkAt (i := 0) (by omega)).1
  · exact (h.blkAt (i := 1) (by omega)).1
  · exact (h.blkAt (i := 2) (by omega)).1
  · exact (h.blkAt (i := 3) (by omega)).1
  · exact (h.blkAt (i := 4) (by omega)).1
  · exact (h.blkAt (i := 5) (by omega)).1
  · exact (h.blkAt (i := 6) (by omega)).1
  · exact (h.blkAt (i := 7) (by omega)).1
  · exact (h.blkAt (i := 8) (by omega)).1
  · exact (h.blkAt (i := 9) (by omega)).1
theorem hop_free (h : Has o w0 w (.hop ob tb q)) (i : Nat) (hi : i < 10) : w.frozen? ⟨ob, i, none⟩ = false := (h.blkAt (i := i) hi).2.1

theorem blk_congr {b n : Nat} {T : TypeId} {f g : Nat → Value} (h : Has o w0 w (.blk b n T f)) (e : ∀ i, i < n → f i = g i) : Has o w0 w (.blk b n T g) := by
  obtain ⟨fp, ⟨hb, rfl⟩, hn, k⟩ := h
  exact ⟨[b], ⟨hb.congr e, rfl⟩, hn, k⟩

/-- A store to an operation's block. -/
theorem hop_put (h : Has o w0 w (.hop ob tb q)) (i : Nat) (hi : i < 10) (v : Value) (q' : AHop) (e : ∀ j, j < 10 → (if j = i then v else hopF tb q j) = hopF tb q' j) : Has o w0 (w.setCell ⟨ob, i, none⟩ v) (.hop ob tb q') := by
  have h2 := (h.blkAt (i := i) hi).2.2 v
  exact blk_congr h2 fun j hj => by unfold upd; exact e j hj

theorem ten {p : Nat → Prop} (h0 : p 0) (h1 : p 1) (h2 : p 2) (h3 : p 3) (h4 : p 4) (h5 : p 5) (h6 : p 6) (h7 : p 7) (h8 : p 8) (h9 : p 9) : ∀ j, j < 10 → p j := by
  intro j hj
  rcases (by omega : j = 0 ∨ j = 1 ∨ j = 2 ∨ j = 3 ∨ j = 4 ∨ j = 5 ∨ j = 6 ∨ j = 7 ∨ j = 8 ∨ j = 9) with rfl | rfl | rfl | rfl | rfl | rfl | rfl | rfl | rfl | rfl <;> assumption

theorem hop_next (h : Has o w0 w (.hop ob tb q)) (v : Int) : Has o w0 (w.setCell ⟨ob, 4, none⟩ (.int .i64 v)) (.hop ob tb { q with next := v }) := hop_put h 4 (by omega) _ _ (ten rfl rfl rfl rfl rfl rfl rfl rfl rfl rfl)
theorem hop_head (h : Has o w0 w (.hop ob tb q)) (v : Int) : Has o w0 (w.setCell ⟨ob, 5, none⟩ (.int .u64 v)) (.hop ob tb { q with head := v }) := hop_put h 5 (by omega) _ _ (ten rfl rfl rfl rfl rfl rfl rfl rfl rfl rfl)
theorem hop_cur (h : Has o w0 w (.hop ob tb q)) (v : Int) : Has o w0 (w.setCell ⟨ob, 6, none⟩ (.int .u64 v)) (.hop ob tb { q with cur := v }) := hop_put h 6 (by omega) _ _ (ten rfl rfl rfl rfl rfl rfl rfl rfl rfl rfl)
theorem hop_own (h : Has o w0 w (.hop ob tb q)) (v : Int) : Has o w0 (w.setCell ⟨ob, 7, none⟩ (.int .u64 v)) (.hop ob tb { q with own := v }) := hop_put h 7 (by omega) _ _ (ten rfl rfl rfl rfl rfl rfl rfl rfl rfl rfl)
theorem hop_ref (h : Has o w0 w (.hop ob tb q)) (v : Int) : Has o w0 (w.setCell ⟨ob, 2, none⟩ (.int .i64 v)) (.hop ob tb { q with ref := v }) := hop_put h 2 (by omega) _ _ (ten rfl rfl rfl rfl rfl rfl rfl rfl rfl rfl)
theorem hop_had (h : Has o w0 w (.hop ob tb q)) (v : Bool) : Has o w0 (w.setCell ⟨ob, 8, none⟩ (.bool v)) (.hop ob tb { q with had := v }) := hop_put h 8 (by omega) _ _ (ten rfl rfl rfl rfl rfl rfl rfl rfl rfl rfl)
theorem hop_code (h : Has o w0 w (.hop ob tb q)) (v : Int) : Has o w0 (w.setCell ⟨ob, 9, none⟩ (.int .i64 v)) (.hop ob tb { q with code := v }) := hop_put h 9 (by omega) _ _ (ten rfl rfl rfl rfl rfl rfl rfl rfl rfl rfl)

/-- An operation that is over. -/
def AHop.ends (q : AHop) (ref : Int) (had : Bool) (code : Int) : AHop := { q with ref := ref, had := had, code := code, next := 4 }

set_option maxHeartbeats 1000000 in
set_option maxRecDepth 100000 in
theorem ends_walk (h : Has o w0 w (.hop ob tb q)) (ref : Int) (had : Bool) (code : Int) :
    Calls Tryd.prog 36 #[.pointer (some ⟨ob, 0, none⟩), .int .i64 ref, .bool had, .int .i64 code] w fun e w' => e = .returned (.bool true) ∧ Has o w0 w' (.hop ob tb (q.ends ref had code)) := by
  obtain ⟨c0, c1, c2, c3, c4, c5, c6, c7, c8, c9⟩ := hop_cells h
  have z2 := hop_free h 2 (by omega)
  have z8 := hop_free h 8 (by omega)
  have z9 := hop_free h 9 (by omega)
  have z4 := hop_free h 4 (by omega)
  have HX := Lib.hid (hop_next (hop_code (hop_had (hop_ref h ref) had) code) 4)
  clear h
  go_enter Tryd.func36, Tryd.ntmps36
  go_wp2_with fail
  go_ret
  exact ⟨rfl, HX.out⟩

theorem Has.madeHop (w : World) (tb : Option Addr) (q : AHop) : Has [] w (w.alloc (.cells #[.pointer tb, .string q.key, .int .i64 q.ref, .bool q.puts, .int .i64 q.next, .int .u64 q.head, .int .u64 q.cur, .int .u64 q.own, .bool q.had, .int .i64 q.code] 69)) (.hop w.heap.size tb q) :=
  Has.madeBlk _ _ _ 10 rfl (ten rfl rfl rfl rfl rfl rfl rfl rfl rfl rfl)

/-- An operation that was just begun. -/
def AHop.new (key : ByteArray) (ref : Int) (puts : Bool) : AHop := ⟨key, ref, puts, 0, 0, 0, 0, false, 0⟩

set_option maxHeartbeats 1000000 in
set_option maxRecDepth 100000 in
theorem insert_walk (w : World) (tb : Option Addr) (key : ByteArray) (ref : Int) :
    Calls Tryd.prog 19 #[.pointer tb, .string key, .int .i64 ref] w fun e w' => ∃ ob, e = .returned (.pointer (some ⟨ob, 0, none⟩)) ∧ Has [] w w' (.hop ob tb (.new key ref true)) := by
  have HX := Lib.hid (Has.madeHop w tb (.new key ref true))
  go_enter Tryd.func19, Tryd.ntmps19
  go_wp2_with fail
  go_ret
  exact ⟨_, rfl, HX.out⟩
set_option maxHeartbeats 1000000 in
set_option maxRecDepth 100000 in
theorem lookup_walk (w : World) (tb : Option Addr) (key : ByteArray) :
    Calls Tryd.prog 20 #[.pointer tb, .string key] w fun e w' => ∃ ob, e = .returned (.pointer (some ⟨ob, 0, none⟩)) ∧ Has [] w w' (.hop ob tb (.new key 0 false)) := by
  have HX := Lib.hid (Has.madeHop w tb (.new key 0 false))
  go_enter Tryd.func20, Tryd.ntmps20
  go_wp2_with fail
  go_ret
  exact ⟨_, rfl, HX.out⟩

set_option maxHeartbeats 1000000 in
set_option maxRecDepth 100000 in
theorem ref_over (h : Has o w0 w (.hop ob tb q)) (hn : q.next = 4) :
    Calls Tryd.prog 13 #[.pointer (some ⟨ob, 0, none⟩)] w fun e w' => e = .returned (.tuple #[.int .i64 q.ref, .bool q.had, .int .i64 q.code]) ∧ Kept [] w w' := by
  obtain ⟨c0, c1, c2, c3, c4, c5, c6, c7, c8, c9⟩ := hop_cells h
  rw [hn] at c4
  clear h
  go_enter Tryd.func13, Tryd.ntmps13
  go_wp2_with fail
  go_quiet (fail)
  go_wp2_with fail
  go_ret3
  exact ⟨rfl, (Kept.refl [] _).drewN _⟩
set_option maxHeartbeats 1000000 in
set_option maxRecDepth 100000 in
theorem ref_nil (w : World) :
    Calls Tryd.prog 13 #[.pointer none] w fun e w' => e = .returned (.tuple #[.int .i64 0, .bool false, .int .i64 1]) ∧ w' = w := by
  go_enter Tryd.func13, Tryd.ntmps13
  go_wp2_with fail
  go_ret3
  exact ⟨rfl, rfl⟩
set_option maxHeartbeats 1000000 in
set_option maxRecDepth 100000 in
theorem bucket_nil (w : World) (s : ByteArray) :
    Calls Tryd.prog 9 #[.pointer none, .string s] w fun e w' => e = .returned (.int .i64 0) ∧ w' = w := by
  go_enter Tryd.func9, Tryd.ntmps9
  go_wp2_with fail
  go_ret
  exact ⟨rfl, rfl⟩
set_option maxHeartbeats 1000000 in
set_option maxRecDepth 100000 in
theorem bucket_nokey (w : World) (s : ByteArray) (hs : keyB s = false) :
    Calls Tryd.prog 9 #[.pointer (some ⟨b, 0, none⟩), .string s] w fun e w' => e = .returned (.int .i64 0) ∧ w' = w := by
  have HK := Lib.hid (key_walk w s)
  rw [hs] at HK
  go_enter Tryd.func9, Tryd.ntmps9
  go_wp2_with fail
  refine HK.out.mono ?_
  rintro e w' ⟨rfl, rfl⟩
  go_wp2_with fail
  go_ret
  exact ⟨rfl, rfl⟩
set_option maxHeartbeats 1000000 in
set_option maxRecDepth 100000 in
theorem keys_nil (w : World) :
    Calls Tryd.prog 17 #[.pointer none] w fun e w' => e = .returned (.slice none 0 0) ∧ w' = w := by
  go_enter Tryd.func17, Tryd.ntmps17
  go_wp2_with fail
  go_ret
  exact ⟨rfl, rfl⟩
set_option maxHeartbeats 1000000 in
set_option maxRecDepth 100000 in
theorem new_nil (w : World) (n : Int) :
    Calls Tryd.prog 18 #[.pointer none, .int .i64 n] w fun e w' => e = .returned (.tuple #[.pointer none, .int .i64 1]) ∧ w' = w := by
  go_enter Tryd.func18, Tryd.ntmps18
  go_wp2_with fail
  go_ret2
  exact ⟨rfl, rfl⟩
end Go.Proofs.YtmldighidbfhhaaDoor
