/- An operation of a skip list, told plainly and in memory; the walks that touch nothing else. -/
import Derived.Test.YtpckpgdkfimapaaDoorSkipSt
import Derived.Laws.EntriesVeiled
namespace Go.Proofs.YtpckpgdkfimapaaDoor
open Go Go.RowKit
set_option linter.unusedVariables false

structure ASop where
  kind : Int
  key : ByteArray
  wd : ByteArray
  ref : Int
  height : Int
  does : Int
  begun : Bool
  level : Int
  pred : Int
  preds : Nat → Int
  succs : Nat → Int
  own : Int
  linked : Int
  found : ByteArray
  had : Bool
  code : Int

def sopLo (tb : Option Addr) (q : ASop) (k : Nat) : Value :=
  if k = 0 then .pointer tb else if k = 1 then .int .i64 q.kind else if k = 2 then .string q.key else if k < 19 then .int .u8 (wordAt q.wd (k - 3)) else if k = 19 then .int .u8 ((q.wd.size : Int) % 256)
  else if k = 20 then .int .i64 q.ref else if k = 21 then .int .i64 q.height else if k = 22 then .int .i64 q.does else if k = 23 then .bool q.begun else if k = 24 then .int .i64 q.level else if k = 25 then .int .i64 q.pred else undef
def sopHi (q : ASop) (k : Nat) : Value :=
  if k = 42 then .int .i64 q.own else if k = 43 then .int .i64 q.linked else if k = 44 then .string q.found else if k = 45 then .bool q.had else if k = 46 then .int .i64 q.code else undef
def sopF (tb : Option Addr) (q : ASop) (k : Nat) : Value := if k < 26 then sopLo tb q k else if k < 34 then .int .i64 (q.preds (k - 26)) else if k < 42 then .int .i64 (q.succs (k - 34)) else sopHi q k
noncomputable def Part.sop (ob : Nat) (tb : Option Addr) (q : ASop) : Part := .blk ob 47 63 (sopF tb q)

variable {o : List Nat} {w0 w : World} {ob : Nat} {tb : Option Addr} {q : ASop}

theorem blkc {b n : Nat} {T : TypeId} {f g : Nat → Value} (h : Has o w0 w (.blk b n T f)) (e : ∀ i, i < n → f i = g i) : Has o w0 w (.blk b n T g) := by
  obtain ⟨fp, ⟨hb, rfl⟩, hn, k⟩ := h
  exact ⟨_, ⟨hb.congr e, rfl⟩, hn, k⟩
theorem sop_cell (h : Has o w0 w (.sop ob tb q)) (k : Nat) (hk : k < 47) : w.cell? ⟨ob, k, none⟩ = some (sopF tb q k) := (h.blkAt hk).1
theorem sop_free (h : Has o w0 w (.sop ob tb q)) (k : Nat) (hk : k < 47) : w.frozen? ⟨ob, k, none⟩ = false := (h.blkAt hk).2.1
theorem sop_put (h : Has o w0 w (.sop ob tb q)) (k : Nat) (hk : k < 47) (v : Value) (q' : ASop) (e : ∀ j, j < 47 → upd (sopF tb q) k v j = sopF tb q' j) : Has o w0 (w.setCell ⟨ob, k, none⟩ v) (.sop ob tb q') :=
  blkc ((h.blkAt hk).2.2 v) e
theorem sopF_lo (tb : Option Addr) (q : ASop) {k : Nat} (hk : k < 26) : sopF tb q k = sopLo tb q k := if_pos hk
theorem sopF_hi (tb : Option Addr) (q : ASop) {k : Nat} (hk : 42 ≤ k) : sopF tb q k = sopHi q k := by
  unfold sopF; rw [if_neg (by omega), if_neg (by omega), if_neg (by omega)]
theorem sopF_preds (tb : Option Addr) (q : ASop) {l : Nat} (hl : l < 8) : sopF tb q (26 + l) = .int .i64 (q.preds l) := by
  unfold sopF; rw [if_neg (by omega), if_pos (by omega), show 26 + l - 26 = l by omega]
theorem sopF_succs (tb : Option Addr) (q : ASop) {l : Nat} (hl : l < 8) : sopF tb q (34 + l) = .int .i64 (q.succs l) := by
  unfold sopF; rw [if_neg (by omega), if_neg (by omega), if_pos (by omega), show 34 + l - 34 = l by omega]
/-- Two operations that are alike but in one cell. -/
theorem sop_like (tb : Option Addr) (q q' : ASop) (k : Nat) (v : Value) (hlo : ∀ j, j < 26 → upd (sopLo tb q) k v j = sopLo tb q' j) (hp : ∀ l, l < 8 → (if 26 + l = k then v else .int .i64 (q.preds l)) = .int .i64 (q'.preds l)) (hs : ∀ l, l < 8 → (if 34 + l = k then v else .int .i64 (q.succs l)) = .int .i64 (q'.succs l))
    (hhi : ∀ j, 42 ≤ j → j < 47 → upd (sopHi q) k v j = sopHi q' j) : ∀ j, j < 47 → upd (sopF tb q) k v j = sopF tb q' j := fun j hj => by
  by_cases h1 : j < 26
  · have := hlo j h1
    unfold upd at this ⊢
    rw [sopF_lo _ _ h1, sopF_lo _ _ h1]; exact this
  by_cases h2 : j < 34
  · obtain ⟨m, rfl⟩ : ∃ m, j = 26 + m := ⟨j - 26, by omega⟩
    have := hp m (by omega)
    unfold upd
    rw [sopF_preds _ _ (by omega), sopF_preds _ _ (by omega)]; exact this
  by_cases h3 : j < 42
  · obtain ⟨m, rfl⟩ : ∃ m, j = 34 + m := ⟨j - 34, by omega⟩
    have := hs m (by omega)
    unfold upd
    rw [sopF_succs _ _ (by omega), sopF_succs _ _ (by omega)]; exact this
  · have := hhi j (by omega) hj
    unfold upd at this ⊢
    rw [sopF_hi _ _ (by omega), sopF_hi _ _ (by omega)]; exact this
def updI (f : Nat → Int) (i : Nat) (v : Int) : Nat → Int := fun j => if j = i then v else f j

theorem sop_ref (h : Has o w0 w (.sop ob tb q)) (v : Int) : Has o w0 (w.setCell ⟨ob, 20, none⟩ (.int .i64 v)) (.sop ob tb { q with ref := v }) := sop_put h 20 (by omega) _ _ (sop_like _ _ _ _ _ (fun j hj => by
  unfold upd; by_cases e : j = 20
  · subst e; rfl
  · simp [sopLo, e])
  (fun l hl => by rw [if_neg (by omega)]) (fun l hl => by rw [if_neg (by omega)])
  (fun j h1 h2 => by unfold upd; rw [if_neg (by omega)]; rfl))
theorem sop_does (h : Has o w0 w (.sop ob tb q)) (v : Int) : Has o w0 (w.setCell ⟨ob, 22, none⟩ (.int .i64 v)) (.sop ob tb { q with does := v }) := sop_put h 22 (by omega) _ _ (sop_like _ _ _ _ _ (fun j hj => by
  unfold upd; by_cases e : j = 22
  · subst e; rfl
  · simp [sopLo, e])
  (fun l hl => by rw [if_neg (by omega)]) (fun l hl => by rw [if_neg (by omega)])
  (fun j h1 h2 => by unfold upd; rw [if_neg (by omega)]; rfl))
theorem sop_begun (h : Has o w0 w (.sop ob tb q)) (v : Bool) : Has o w0 (w.setCell ⟨ob, 23, none⟩ (.bool v)) (.sop ob tb { q with begun := v }) := sop_put h 23 (by omega) _ _ (sop_like _ _ _ _ _ (fun j hj => by
  unfold upd; by_cases e : j = 23
  · subst e; rfl
  · simp [sopLo, e])
  (fun l hl => by rw [if_neg (by omega)]) (fun l hl => by rw [if_neg (by omega)])
  (fun j h1 h2 => by unfold upd; rw [if_neg (by omega)]; rfl))
theorem sop_level (h : Has o w0 w (.sop ob tb q)) (v : Int) : Has o w0 (w.setCell ⟨ob, 24, none⟩ (.int .i64 v)) (.sop ob tb { q with level := v }) := sop_put h 24 (by omega) _ _ (sop_like _ _ _ _ _ (fun j hj => by
  unfold upd; by_cases e : j = 24
  · subst e; rfl
  · simp [sopLo, e])
  (fun l hl => by rw [if_neg (by omega)]) (fun l hl => by rw [if_neg (by omega)])
  (fun j h1 h2 => by unfold upd; rw [if_neg (by omega)]; rfl))
theorem sop_pred (h : Has o w0 w (.sop ob tb q)) (v : Int) : Has o w0 (w.setCell ⟨ob, 25, none⟩ (.int .i64 v)) (.sop ob tb { q with pred := v }) := sop_put h 25 (by omega) _ _ (sop_like _ _ _ _ _ (fun j hj => by
  unfold upd; by_cases e : j = 25
  · subst e; rfl
  · simp [sopLo, e])
  (fun l hl => by rw [if_neg (by omega)]) (fun l hl => by rw [if_neg (by omega)])
  (fun j h1 h2 => by unfold upd; rw [if_neg (by omega)]; rfl))
theorem sop_own (h : Has o w0 w (.sop ob tb q)) (v : Int) : Has o w0 (w.setCell ⟨ob, 42, none⟩ (.int .i64 v)) (.sop ob tb { q with own := v }) := sop_put h 42 (by omega) _ _ (sop_like _ _ _ _ _ (fun j hj => by unfold upd; rw [if_neg (by omega)]; rfl)
  (fun l hl => by rw [if_neg (by omega)]) (fun l hl => by rw [if_neg (by omega)])
  (fun j h1 h2 => by
  unfold upd; by_cases e : j = 42
  · subst e; rfl
  · simp [sopHi, e]))
theorem sop_linked (h : Has o w0 w (.sop ob tb q)) (v : Int) : Has o w0 (w.setCell ⟨ob, 43, none⟩ (.int .i64 v)) (.sop ob tb { q with linked := v }) := sop_put h 43 (by omega) _ _ (sop_like _ _ _ _ _ (fun j hj => by unfold upd; rw [if_neg (by omega)]; rfl)
  (fun l hl => by rw [if_neg (by omega)]) (fun l hl => by rw [if_neg (by omega)])
  (fun j h1 h2 => by
  unfold upd; by_cases e : j = 43
  · subst e; rfl
  · simp [sopHi, e]))
theorem sop_found (h : Has o w0 w (.sop ob tb q)) (v : ByteArray) : Has o w0 (w.setCell ⟨ob, 44, none⟩ (.string v)) (.sop ob tb { q with found := v }) := sop_put h 44 (by omega) _ _ (sop_like _ _ _ _ _ (fun j hj => by unfold upd; rw [if_neg (by omega)]; rfl)
  (fun l hl => by rw [if_neg (by omega)]) (fun l hl => by rw [if_neg (by omega)])
  (fun j h1 h2 => by
  unfold upd; by_cases e : j = 44
  · subst e; rfl
  · simp [sopHi, e]))
theorem sop_had (h : Has o w0 w (.sop ob tb q)) (v : Bool) : Has o w0 (w.setCell ⟨ob, 45, none⟩ (.bool v)) (.sop ob tb { q with had := v }) := sop_put h 45 (by omega) _ _ (sop_like _ _ _ _ _ (fun j hj => by unfold upd; rw [if_neg (by omega)]; rfl)
  (fun l hl => by rw [if_neg (by omega)]) (fun l hl => by rw [if_neg (by omega)])
  (fun j h1 h2 => by
  unfold upd; by_cases e : j = 45
  · subst e; rfl
  · simp [sopHi, e]))
theorem sop_code (h : Has o w0 w (.sop ob tb q)) (v : Int) : Has o w0 (w.setCell ⟨ob, 46, none⟩ (.int .i64 v)) (.sop ob tb { q with code := v }) := sop_put h 46 (by omega) _ _ (sop_like _ _ _ _ _ (fun j hj => by unfold upd; rw [if_neg (by omega)]; rfl)
  (fun l hl => by rw [if_neg (by omega)]) (fun l hl => by rw [if_neg (by omega)])
  (fun j h1 h2 => by
  unfold upd; by_cases e : j = 46
  · subst e; rfl
  · simp [sopHi, e]))
theorem sop_preds (h : Has o w0 w (.sop ob tb q)) {l : Nat} (hl : l < 8) (v : Int) : Has o w0 (w.setCell ⟨ob, 26 + l, none⟩ (.int .i64 v)) (.sop ob tb { q with preds := updI q.preds l v }) := sop_put h (26 + l) (by omega) _ _ (sop_like _ _ _ _ _
  (fun j hj => by unfold upd; rw [if_neg (by omega)]; rfl)
  (fun m hm => by
    show _ = Value.int .i64 (if m = l then v else q.preds m)
    by_cases e : m = l
    · rw [if_pos e, if_pos (by omega)]
    · rw [if_neg e, if_neg (by omega)])
  (fun m hm => by rw [if_neg (by omega)])
  (fun j h1 h2 => by unfold upd; rw [if_neg (by omega)]; rfl))
theorem sop_succs (h : Has o w0 w (.sop ob tb q)) {l : Nat} (hl : l < 8) (v : Int) : Has o w0 (w.setCell ⟨ob, 34 + l, none⟩ (.int .i64 v)) (.sop ob tb { q with succs := updI q.succs l v }) := sop_put h (34 + l) (by omega) _ _ (sop_like _ _ _ _ _
  (fun j hj => by unfold upd; rw [if_neg (by omega)]; rfl)
  (fun m hm => by rw [if_neg (by omega)])
  (fun m hm => by
    show _ = Value.int .i64 (if m = l then v else q.succs m)
    by_cases e : m = l
    · rw [if_pos e, if_pos (by omega)]
    · rw [if_neg e, if_neg (by omega)])
  (fun j h1 h2 => by unfold upd; rw [if_neg (by omega)]; rfl))

/-- An operation that ends. -/
def ASop.ends (q : ASop) (found : ByteArray) (ref : Int) (had : Bool) (code : Int) : ASop := { q with found := found, ref := ref, had := had, code := code, does := 3 }
/-- One that searches from the top. -/
def ASop.again (q : ASop) : ASop := { q with does := 0, level := 7, pred := 0 }

set_option maxHeartbeats 1000000 in
set_option maxRecDepth 100000 in
theorem ends_walk (h : Has o w0 w (.sop ob tb q)) (found : ByteArray) (ref : Int) (had : Bool) (code : Int) :
    Calls Tryd.prog 30 #[.pointer (some ⟨ob, 0, none⟩), .string found, .int .i64 ref, .bool had, .int .i64 code] w fun e w' => e = .returned (.bool true) ∧ Has o w0 w' (.sop ob tb (q.ends found ref had code)) := by
  have a44 := sop_cell h 44 (by omega)
  have z44 := sop_free h 44 (by omega)
  have h1 := sop_found h found
  have a20 := sop_cell h1 20 (by omega)
  have z20 := sop_free h1 20 (by omega)
  have h2 := sop_ref h1 ref
  have a45 := sop_cell h2 45 (by omega)
  have z45 := sop_free h2 45 (by omega)
  have h3 := sop_had h2 had
  have a46 := sop_cell h3 46 (by omega)
  have z46 := sop_free h3 46 (by omega)
  have h4 := sop_code h3 code
  have a22 := sop_cell h4 22 (by omega)
  have z22 := sop_free h4 22 (by omega)
  have HX := Lib.hid (sop_does h4 3)
  clear h h1 h2 h3 h4
  go_enter Tryd.func30, Tryd.ntmps30
  go_wp2_with fail
  go_ret
  exact ⟨rfl, HX.out⟩
set_option maxHeartbeats 1000000 in
set_option maxRecDepth 100000 in
theorem again_walk (h : Has o w0 w (.sop ob tb q)) :
    Calls Tryd.prog 32 #[.pointer (some ⟨ob, 0, none⟩)] w fun e w' => e = .returned (.tuple #[]) ∧ Has o w0 w' (.sop ob tb q.again) := by
  have a22 := sop_cell h 22 (by omega)
  have z22 := sop_free h 22 (by omega)
  have h1 := sop_does h 0
  have a24 := sop_cell h1 24 (by omega)
  have z24 := sop_free h1 24 (by omega)
  have h2 := sop_level h1 7
  have a25 := sop_cell h2 25 (by omega)
  have z25 := sop_free h2 25 (by omega)
  have HX := Lib.hid (sop_pred h2 0)
  clear h h1 h2
  go_enter Tryd.func32, Tryd.ntmps32
  go_wp2_with fail
  go_end0
  exact ⟨rfl, HX.out⟩

theorem Has.since {w w1 w2 : World} {A : Part} (h : Has [] w1 w2 A) (k : Kept [] w w1) : Has [] w w2 A := by
  obtain ⟨fp, hA, hn, k'⟩ := h
  exact ⟨fp, hA, fun x hx => .inr (Nat.le_trans k.size ((hn x hx).resolve_left (by simp))), k.tr k'⟩
/-- A new operation. -/
def ASop.new (kind : Int) (key wd : ByteArray) (ref height : Int) : ASop := ⟨kind, key, wd, ref, height, 0, false, 0, 0, fun _ => 0, fun _ => 0, 0, 0, ⟨#[]⟩, false, 0⟩
theorem Has.madeSop (w : World) (tb : Option Addr) (q : ASop) (cs : Array Value) (hs : cs.size = 47) (hc : ∀ i, i < 47 → cs[i]? = some (sopF tb q i)) : Has [] w (w.alloc (.cells cs 63)) (.sop w.heap.size tb q) := Has.madeBlk _ _ _ 47 hs hc
/-- A height within its bounds. -/
def hgt (h : Int) : Int := min (max h 1) 8
theorem hgt_range (h : Int) : 1 ≤ hgt h ∧ hgt h ≤ 8 := by unfold hgt; omega
/-- The empty text's word is all noughts. -/
theorem wordAt_nil (i : Nat) : wordAt ⟨#[]⟩ i = 0 := by unfold wordAt; exact if_neg (Nat.not_lt_zero _)

set_option maxHeartbeats 4000000 in
set_option maxRecDepth 100000 in
theorem next_walk (w : World) (tb : Option Addr) (key : ByteArray) :
    Calls Tryd.prog 20 #[.pointer tb, .string key] w fun e w' => ∃ ob, e = .returned (.pointer (some ⟨ob, 0, none⟩)) ∧ Has [] w w' (.sop ob tb (.new 2 key ⟨#[]⟩ 0 0)) := by
  go_enter Tryd.func20, Tryd.ntmps20
  go_wp2_with fail
  go_ret
  exact ⟨w.heap.size, rfl, Has.madeSop w tb _ _ rfl fun i hi => by
    rcases (by omega : i = 0 ∨ i = 1 ∨ i = 2 ∨ i = 3 ∨ i = 4 ∨ i = 5 ∨ i = 6 ∨ i = 7 ∨ i = 8 ∨ i = 9 ∨ i = 10 ∨ i = 11 ∨ i = 12 ∨ i = 13 ∨ i = 14 ∨ i = 15 ∨ i = 16 ∨ i = 17 ∨ i = 18 ∨ i = 19 ∨ i = 20 ∨ i = 21 ∨ i = 22 ∨ i = 23 ∨ i = 24 ∨ i = 25 ∨ i = 26 ∨ i = 27 ∨ i = 28 ∨ i = 29 ∨ i = 30 ∨ i = 31 ∨ i = 32 ∨ i = 33 ∨ i = 34 ∨ i = 35 ∨ i = 36 ∨ i = 37 ∨ i = 38 ∨ i = 39 ∨ i = 40 ∨ i = 41 ∨ i = 42 ∨ i = 43 ∨ i = 44 ∨ i = 45 ∨ i = 46) with rfl | rfl | rfl | rfl | rfl | rfl | rfl | rfl | rfl | rfl | rfl | rfl | rfl | rfl | rfl | rfl | rfl | rfl | rfl | rfl | rfl | rfl | rfl | rfl | rfl | rfl | rfl | rfl | rfl | rfl | rfl | rfl | rfl | rfl | rfl | rfl | rfl | rfl | rfl | rfl | rfl | rfl | rfl | rfl | rfl | rfl | rfl <;> rfl⟩
set_option maxHeartbeats 4000000 in
set_option maxRecDepth 100000 in
theorem lookup_walk (w : World) (tb : Option Addr) (key : ByteArray) :
    Calls Tryd.prog 16 #[.pointer tb, .string key] w fun e w' => ∃ ob, e = .returned (.pointer (some ⟨ob, 0, none⟩)) ∧ Has [] w w' (.sop ob tb (.new 1 key key 0 0)) := by
  have HW := Lib.hid (fun W => word_walk W key)
  unfold wordV at HW
  go_enter Tryd.func16, Tryd.ntmps16
  go_wp2_with fail
  refine (HW.out _).mono ?_
  rintro e w2 ⟨rfl, hk⟩
  have HK := Lib.hid hk
  clear hk
  go_wp2_with fail
  go_ret
  exact ⟨w2.heap.size, rfl, (Has.madeSop w2 tb _ _ rfl fun i hi => by
    rcases (by omega : i = 0 ∨ i = 1 ∨ i = 2 ∨ i = 3 ∨ i = 4 ∨ i = 5 ∨ i = 6 ∨ i = 7 ∨ i = 8 ∨ i = 9 ∨ i = 10 ∨ i = 11 ∨ i = 12 ∨ i = 13 ∨ i = 14 ∨ i = 15 ∨ i = 16 ∨ i = 17 ∨ i = 18 ∨ i = 19 ∨ i = 20 ∨ i = 21 ∨ i = 22 ∨ i = 23 ∨ i = 24 ∨ i = 25 ∨ i = 26 ∨ i = 27 ∨ i = 28 ∨ i = 29 ∨ i = 30 ∨ i = 31 ∨ i = 32 ∨ i = 33 ∨ i = 34 ∨ i = 35 ∨ i = 36 ∨ i = 37 ∨ i = 38 ∨ i = 39 ∨ i = 40 ∨ i = 41 ∨ i = 42 ∨ i = 43 ∨ i = 44 ∨ i = 45 ∨ i = 46) with rfl | rfl | rfl | rfl | rfl | rfl | rfl | rfl | rfl | rfl | rfl | rfl | rfl | rfl | rfl | rfl | rfl | rfl | rfl | rfl | rfl | rfl | rfl | rfl | rfl | rfl | rfl | rfl | rfl | rfl | rfl | rfl | rfl | rfl | rfl | rfl | rfl | rfl | rfl | rfl | rfl | rfl | rfl | rfl | rfl | rfl | rfl <;> rfl).since HK.out⟩
set_option maxHeartbeats 4000000 in
set_option maxRecDepth 100000 in
theorem insert_walk (w : World) (tb : Option Addr) (key : ByteArray) (ref height : Int) :
    Calls Tryd.prog 19 #[.pointer tb, .string key, .int .i64 ref, .int .i64 height] w fun e w' => ∃ ob, e = .returned (.pointer (some ⟨ob, 0, none⟩)) ∧ Has [] w w' (.sop ob tb (.new 0 key key ref (hgt height))) := by
  have HW := Lib.hid (fun W => word_walk W key)
  unfold wordV at HW
  go_enter Tryd.func19, Tryd.ntmps19
  go_wp2_with fail
  refine (HW.out _).mono ?_
  rintro e w2 ⟨rfl, hk⟩
  have HK := Lib.hid hk
  clear hk
  go_wp2_with fail
  all_goals (
    go_ret
    first
     | (have e : hgt height = 1 := by unfold hgt; omega
        rw [e]
        exact ⟨w2.heap.size, rfl, (Has.madeSop w2 tb (.new 0 key key ref 1) _ rfl fun i hi => by
          rcases (by omega : i = 0 ∨ i = 1 ∨ i = 2 ∨ i = 3 ∨ i = 4 ∨ i = 5 ∨ i = 6 ∨ i = 7 ∨ i = 8 ∨ i = 9 ∨ i = 10 ∨ i = 11 ∨ i = 12 ∨ i = 13 ∨ i = 14 ∨ i = 15 ∨ i = 16 ∨ i = 17 ∨ i = 18 ∨ i = 19 ∨ i = 20 ∨ i = 21 ∨ i = 22 ∨ i = 23 ∨ i = 24 ∨ i = 25 ∨ i = 26 ∨ i = 27 ∨ i = 28 ∨ i = 29 ∨ i = 30 ∨ i = 31 ∨ i = 32 ∨ i = 33 ∨ i = 34 ∨ i = 35 ∨ i = 36 ∨ i = 37 ∨ i = 38 ∨ i = 39 ∨ i = 40 ∨ i = 41 ∨ i = 42 ∨ i = 43 ∨ i = 44 ∨ i = 45 ∨ i = 46) with rfl | rfl | rfl | rfl | rfl | rfl | rfl | rfl | rfl | rfl | rfl | rfl | rfl | rfl | rfl | rfl | rfl | rfl | rfl | rfl | rfl | rfl | rfl | rfl | rfl | rfl | rfl | rfl | rfl | rfl | rfl | rfl | rfl | rfl | rfl | rfl | rfl | rfl | rfl | rfl | rfl | rfl | rfl | rfl | rfl | rfl | rfl <;> rfl).since HK.out⟩)
     | (have e : hgt height = 8 := by unfold hgt; omega
        rw [e]
        exact ⟨w2.heap.size, rfl, (Has.madeSop w2 tb (.new 0 key key ref 8) _ rfl fun i hi => by
          rcases (by omega : i = 0 ∨ i = 1 ∨ i = 2 ∨ i = 3 ∨ i = 4 ∨ i = 5 ∨ i = 6 ∨ i = 7 ∨ i = 8 ∨ i = 9 ∨ i = 10 ∨ i = 11 ∨ i = 12 ∨ i = 13 ∨ i = 14 ∨ i = 15 ∨ i = 16 ∨ i = 17 ∨ i = 18 ∨ i = 19 ∨ i = 20 ∨ i = 21 ∨ i = 22 ∨ i = 23 ∨ i = 24 ∨ i = 25 ∨ i = 26 ∨ i = 27 ∨ i = 28 ∨ i = 29 ∨ i = 30 ∨ i = 31 ∨ i = 32 ∨ i = 33 ∨ i = 34 ∨ i = 35 ∨ i = 36 ∨ i = 37 ∨ i = 38 ∨ i = 39 ∨ i = 40 ∨ i = 41 ∨ i = 42 ∨ i = 43 ∨ i = 44 ∨ i = 45 ∨ i = 46) with rfl | rfl | rfl | rfl | rfl | rfl | rfl | rfl | rfl | rfl | rfl | rfl | rfl | rfl | rfl | rfl | rfl | rfl | rfl | rfl | rfl | rfl | rfl | rfl | rfl | rfl | rfl | rfl | rfl | rfl | rfl | rfl | rfl | rfl | rfl | rfl | rfl | rfl | rfl | rfl | rfl | rfl | rfl | rfl | rfl | rfl | rfl <;> rfl).since HK.out⟩)
     | (have e : hgt height = height := by unfold hgt; omega
        rw [e]
        exact ⟨w2.heap.size, rfl, (Has.madeSop w2 tb (.new 0 key key ref height) _ rfl fun i hi => by
          rcases (by omega : i = 0 ∨ i = 1 ∨ i = 2 ∨ i = 3 ∨ i = 4 ∨ i = 5 ∨ i = 6 ∨ i = 7 ∨ i = 8 ∨ i = 9 ∨ i = 10 ∨ i = 11 ∨ i = 12 ∨ i = 13 ∨ i = 14 ∨ i = 15 ∨ i = 16 ∨ i = 17 ∨ i = 18 ∨ i = 19 ∨ i = 20 ∨ i = 21 ∨ i = 22 ∨ i = 23 ∨ i = 24 ∨ i = 25 ∨ i = 26 ∨ i = 27 ∨ i = 28 ∨ i = 29 ∨ i = 30 ∨ i = 31 ∨ i = 32 ∨ i = 33 ∨ i = 34 ∨ i = 35 ∨ i = 36 ∨ i = 37 ∨ i = 38 ∨ i = 39 ∨ i = 40 ∨ i = 41 ∨ i = 42 ∨ i = 43 ∨ i = 44 ∨ i = 45 ∨ i = 46) with rfl | rfl | rfl | rfl | rfl | rfl | rfl | rfl | rfl | rfl | rfl | rfl | rfl | rfl | rfl | rfl | rfl | rfl | rfl | rfl | rfl | rfl | rfl | rfl | rfl | rfl | rfl | rfl | rfl | rfl | rfl | rfl | rfl | rfl | rfl | rfl | rfl | rfl | rfl | rfl | rfl | rfl | rfl | rfl | rfl | rfl | rfl <;> rfl).since HK.out⟩))
end Go.Proofs.YtpckpgdkfimapaaDoor
