/- Both stores' chains; the walk of the statements' own same.
The walk of the document's Sweep over the reference's store. -/
import Derived.Test.YtbodobdllchmgaaDoorMTakes12
import Derived.StillTailTactics
namespace Go.Proofs.YtbodobdllchmgaaDoor
open Go Go.RowKit
set_option linter.unusedVariables false

variable {o : List Nat} {w0 w : World} {b rb : Nat} {A : ASt} {rs s : Int} {B N C : Part} {ch : Nat → List Nat}

theorem Has.pull (h : Has o w0 w ((C.sep N).sep B)) : Has o w0 w ((C.sep B).sep N) := by
  have h1 := h.assoc
  obtain ⟨o', h', _, _, b'⟩ := h1.right
  exact (b' _ _ h'.swap).assoc'

/-- A node's chain, by the store, whatever the number. -/
theorem chain_any (h : Has o w0 w (.store b A)) (hc : Chs A ch) (x : Int) (hV : A.nV ≤ 1000000) :
    Calls Tryd.prog 45 #[P0 b, .int .i64 x] w fun e w' => ∃ lv st, e = .returned lv ∧ Has o w0 w' ((Part.store b (A.at st)).sep (.nums lv (chL A ch x))) := by
  by_cases hx : A.isN x = true
  · obtain ⟨i, rfl, hi, e1, hh⟩ := isN_head hc hx
    have e : chL A ch ((i : Int) + 1) = chainF A (hd (ch i)).toNat (hd (ch i)) := by
      unfold chL; rw [if_pos hx, e1]
      exact ((hc.link i hi).chain hc.down _ (Nat.le_refl _)).symm
    rw [e]
    exact Chain_at h i _ hh (by omega)
  · have hx' : A.isN x = false := by simpa using hx
    have e : chL A ch x = [] := by unfold chL; rw [if_neg hx]
    rw [e]
    refine (Chain_none h x hx').mono ?_
    rintro e w' ⟨rfl, rfl⟩
    exact ⟨_, A.steps, rfl, h.beside (Has.nilNums _)⟩
theorem rchain_any (h : Has o w0 w (.rstore b A rs)) (hok : AOk A) (hc : Chs A ch) (x : Int) (hV : A.nV ≤ 1000000) :
    Calls Tryd.prog 18 #[P0 b, .int .i64 x] w fun e w' => ∃ lv, e = .returned lv ∧ Has o w0 w' ((Part.rstore b A rs).sep (.nums lv (chL A ch x))) := by
  by_cases hx : A.isN x = true
  · obtain ⟨i, rfl, hi, e1, hh⟩ := isN_head hc hx
    have e : chL A ch ((i : Int) + 1) = chainF A (hd (ch i)).toNat (hd (ch i)) := by
      unfold chL; rw [if_pos hx, e1]
      exact ((hc.link i hi).chain hc.down _ (Nat.le_refl _)).symm
    rw [e]
    exact rChain_at h hok i _ hh (by omega)
  · have hx' : A.isN x = false := by simpa using hx
    have e : chL A ch x = [] := by unfold chL; rw [if_neg hx]
    rw [e]
    refine (rChain_no h x hx').mono ?_
    rintro e w' ⟨rfl, rfl⟩
    exact ⟨_, rfl, h.beside (Has.nilNums _)⟩

theorem aok_at (hok : AOk (A.at s)) : AOk A := ⟨hok.fit, hok.big, hok.word, hok.headLe, hok.nextLe⟩

theorem chain_two (h : Has o w0 w ((Part.two b rb (A.at s) A rs).sep B)) (hc : Chs A ch) (x : Int) (hV : A.nV ≤ 1000000) :
    Calls Tryd.prog 45 #[P0 b, .int .i64 x] w fun e w' => ∃ lv s', e = .returned lv ∧ Has o w0 w' (((Part.two b rb (A.at s') A rs).sep B).sep (.nums lv (chL A ch x))) := by
  obtain ⟨o1, h1, _, _, b1⟩ := h.left
  obtain ⟨o2, h2, _, _, b2⟩ := Has.left (A := .store b (A.at s)) (B := .rstore rb A rs) h1
  refine (chain_any h2 (hc.at s) x hV).mono ?_
  rintro e w' ⟨lv, st, rfl, h'⟩
  exact ⟨lv, st, rfl, Has.pull (b1 _ _ (Has.pull (b2 _ _ h')))⟩
theorem rchain_two (h : Has o w0 w ((Part.two b rb (A.at s) A rs).sep B)) (hc : Chs A ch) (x : Int) (hV : A.nV ≤ 1000000) :
    Calls Tryd.prog 18 #[P0 rb, .int .i64 x] w fun e w' => ∃ lv, e = .returned lv ∧ Has o w0 w' (((Part.two b rb (A.at s) A rs).sep B).sep (.nums lv (chL A ch x))) := by
  have hok := aok_at (pair_ok h)
  obtain ⟨o1, h1, _, _, b1⟩ := h.left
  obtain ⟨o2, h2, _, _, b2⟩ := Has.right (A := .store b (A.at s)) (B := .rstore rb A rs) h1
  refine (rchain_any h2 hok hc x hV).mono ?_
  rintro e w' ⟨lv, rfl, h'⟩
  exact ⟨lv, rfl, Has.pull (b1 _ _ (b2 _ _ h').assoc')⟩

theorem nums_row {v : Value} {cs : List Nat} (h : Has o w0 w (.nums v cs)) : ∃ p cap, v = .slice p cs.length cap ∧ cs.length ≤ 9223372036854775807 ∧ ∀ k, k < cs.length → ∃ g, p = some ⟨g, 0, none⟩ ∧ w.cell? ⟨g, k, none⟩ = some (.int .i64 ((cs.getD k 0 : Nat) : Int)) := by
  obtain ⟨p, cap, e, h1, _, hc⟩ := nums_open h
  refine ⟨p, cap, e, Nat.le_trans h1 (by decide), fun k hk => ?_⟩
  obtain ⟨g, hp, hcell⟩ := hc (by omega)
  refine ⟨g, hp, ?_⟩
  rw [hcell k hk, List.getD_eq_getElem?_getD, List.getElem?_eq_getElem hk]; rfl

theorem node_cell {g off m c : Nat} {nl : List Int} (h : Has o w0 w (B.sep (.ints (.slice (some ⟨g, off, none⟩) m c) nl))) (hm : m = nl.length) {k : Nat} (hk : k < nl.length) : w.cell? ⟨g, off + k, none⟩ = some (.int .i64 (nl.getD k 0)) := by
  subst hm
  obtain ⟨_, h1, _⟩ := h.right
  obtain ⟨g2, off2, hp, cg⟩ := row_cell h1.intsAt rfl (k := k) hk
  obtain ⟨rfl, rfl⟩ : g = g2 ∧ off = off2 := by simpa using hp
  exact cg
theorem ints_small {v : Value} {nl : List Int} (h : Has o w0 w (.ints v nl)) : nl.length ≤ 9223372036854775807 := by
  rcases (ap_row h).2 with ⟨_, h0⟩ | ⟨g, cap, cur, _, _, _, h2, h3, _⟩
  · omega
  · exact Nat.le_trans (Nat.le_trans h2 h3) (by decide)

set_option maxHeartbeats 4000000 in
set_option maxRecDepth 100000 in
/-- Both have the same chains. -/
theorem same_walk {nv : Value} {nl : List Int} (h : Has o w0 w ((Part.two b rb (A.at s) A rs).sep (.ints nv nl))) (hc : Chs A ch) (hV : A.nV ≤ 1000000) :
    Calls Tryd.prog 22 #[P0 b, P0 rb, nv] w fun e w' => e = .returned (.bool true) ∧ ∃ s', Has o w0 w' ((Part.two b rb (A.at s') A rs).sep (.ints nv nl)) := by
  obtain ⟨_, h1, _⟩ := h.right
  obtain ⟨np, nc, rfl⟩ := ap_ints h1
  have h9 : nl.length ≤ 9223372036854775807 := by
    have := (ap_row h1).2
    rcases this with ⟨_, h0⟩ | ⟨g, cap, cur, _, _, _, h2, h3, _⟩
    · omega
    · exact Nat.le_trans (Nat.le_trans h2 h3) (by decide)
  have HX := Lib.hid h
  have HC := Lib.hid hc
  clear h h1 hc
  go_enter Tryd.func22, Tryd.ntmps22
  go_wp2_with fail
  go_loopg [7] nl.length (fun k iv wr => ∃ (i : Nat) (s' : Int), i ≤ nl.length ∧ k = nl.length - i ∧ iv = .int .i64 i ∧ Has o w0 wr ((Part.two b rb (A.at s') A rs).sep (.ints (.slice np nl.length nc) nl)))
  case atStart => exact ⟨0, s, Nat.zero_le _, rfl, rfl, HX.out⟩
  case round =>
    clear HX
    obtain ⟨i, s1, hi, hk, rfl, hX⟩ := hrel
    have HKK := Lib.hid hk
    have HX := Lib.hid hX
    clear hk hX
    by_cases hlt : i < nl.length
    · have d1 : decide ((i : Int) < (nl.length : Int)) = true := by simp; omega
      have d1' : decide (i < nl.length) = true := by simp; omega
      have q1 : 0 ≤ (i : Int) ∧ (i : Int) < (nl.length : Int) := by omega
      obtain ⟨_, h1, _⟩ := HX.out.right
      obtain ⟨g, off, hp, cg⟩ := row_cell h1.intsAt rfl (k := i) hlt
      subst hp
      obtain ⟨x, hx⟩ : ∃ x, nl.getD i 0 = x := ⟨_, rfl⟩
      rw [hx] at cg
      have HXX := Lib.hid hx
      clear hx
      have HC1 := Lib.hid (chain_two HX.out HC.out x hV)
      clear HX h1
      go_wp2_with fail
      refine HC1.out.mono ?_
      rintro e w4 ⟨lv, s4, rfl, hX⟩
      have y1 := node_cell hX.fst rfl (k := i) hlt
      rw [HXX.out] at y1
      have HX4 := Lib.hid hX
      have HC2 := Lib.hid (rchain_two hX.assoc HC.out x hV)
      clear hX HC1 cg
      go_wp2_with fail
      refine HC2.out.mono ?_
      rintro e w5 ⟨lv2, rfl, hX⟩
      have HX5 := Lib.hid hX
      obtain ⟨_, h5, _⟩ := hX.left
      obtain ⟨_, h6, _⟩ := h5.right
      obtain ⟨_, h7, _⟩ := h6.right
      obtain ⟨_, h8, _⟩ := hX.right
      obtain ⟨p1, c1, rfl, hs1, _⟩ := nums_row h7
      obtain ⟨p2, c2, rfl, hs2, _⟩ := nums_row h8
      generalize chL A ch x = L at *
      clear hX h5 h6 h7 h8 HC2 y1 HX4
      have z1 : decide ((L.length : Int) ≠ (L.length : Int)) = false := by simp
      go_wp2_with fail
      go_loopg [10] L.length (fun k jv wx => ∃ j : Nat, j ≤ L.length ∧ k = L.length - j ∧ jv = .int .i64 j ∧ Has o w0 wx (((Part.two b rb (A.at s4) A rs).sep ((Part.ints (.slice (some ⟨g, off, none⟩) nl.length nc) nl).sep (.nums (.slice p1 L.length c1) L))).sep (.nums (.slice p2 L.length c2) L)))
      case atStart => exact ⟨0, Nat.zero_le _, rfl, rfl, HX5.out⟩
      case round =>
        clear HX5
        obtain ⟨j, hj, hkj, rfl, hX⟩ := hrel
        have HKJ := Lib.hid hkj
        have HX := Lib.hid hX
        clear hkj hX
        by_cases hjl : j < L.length
        · have g1 : decide ((j : Int) < (L.length : Int)) = true := by simp; omega
          have g1' : decide (j < L.length) = true := by simp; omega
          have q2 : 0 ≤ (j : Int) ∧ (j : Int) < (L.length : Int) := by omega
          have q3 : (0 : Int) ≤ (j : Int) := by omega
          have q4 : (j : Int) < (L.length : Int) := by omega
          obtain ⟨_, h5, _⟩ := HX.out.left
          obtain ⟨_, h6, _⟩ := h5.right
          obtain ⟨_, h7, _⟩ := h6.right
          obtain ⟨_, h8, _⟩ := HX.out.right
          obtain ⟨_, _, e1, _, hc1⟩ := nums_row h7
          obtain ⟨rfl, rfl⟩ : p1 = _ ∧ c1 = _ := by simpa using e1
          obtain ⟨g1b, hp1, x1⟩ := hc1 j hjl
          obtain ⟨_, _, e2, _, hc2⟩ := nums_row h8
          obtain ⟨rfl, rfl⟩ : p2 = _ ∧ c2 = _ := by simpa using e2
          obtain ⟨g2b, hp2, x2⟩ := hc2 j hjl
          subst hp1 hp2
          clear h5 h6 h7 h8 hc1 hc2 e1 e2
          go_wp2_with fail
          go_quiet (fail)
          go_wp2_with fail
          go_roundg (L.length - (j + 1))
          case measure => rw [HKJ.out]; omega
          case rel => exact ⟨j + 1, by omega, rfl, by go_num, HX.out.drewN _⟩
        · have g1 : decide ((j : Int) < (L.length : Int)) = false := by simp; omega
          have g1' : decide (j < L.length) = false := by simp; omega
          go_wp2_with fail
          go_roundg (nl.length - (i + 1))
          case measure => rw [HKK.out]; omega
          case rel => exact ⟨i + 1, s4, by omega, rfl, by go_num, HX.out.fst.assoc'.fst⟩
    · have d1 : decide ((i : Int) < (nl.length : Int)) = false := by simp; omega
      have d1' : decide (i < nl.length) = false := by simp; omega
      go_wp2_with fail
      go_ret
      exact ⟨rfl, s1, HX.out⟩
end Go.Proofs.YtbodobdllchmgaaDoor
namespace Go.Proofs.YtbodobdllchmgaaDoor
open Go Go.RowKit
set_option linter.unusedVariables false

variable {o : List Nat} {w0 w : World} {b rb : Nat} {A : ASt} {rs s mark : Int} {B N C E : Part} {ch : Nat → List Nat}

theorem goneAll_at_sub (l : List Nat) (A : ASt) {x : Loc} {v : Int} (h : (A.goneAll l).at_ x = some v) : A.at_ x = some v := by
  induction l generalizing A with
  | nil => exact h
  | cons c cs ih => exact (goneV_at (ih (A.goneV (c - 1)) h)).1

theorem AOk.cutV (h : AOk A) (hc : Chs A ch) {i : Nat} (hi : i < A.nN) {pre vs : List Nat} {v : Nat} (hu : (A.cutV v vs).used ≤ A.used) : AOk (A.cutV v vs) := by
  obtain ⟨cN, cn, cV⟩ := cutV_N A v vs
  have key : ∀ l u, (A.cutV v vs).at_ l = some u → A.at_ l = some u ∨ (l = .next (v - 1) ∧ u = 0) := fun l u hl => by
    have h1 := goneAll_at_sub vs _ hl
    rw [A.at_set] at h1
    by_cases e : l = .next (v - 1)
    · rw [if_pos e] at h1
      cases hx : A.at_ l with
      | none => rw [hx] at h1; cases h1
      | some z => rw [hx] at h1; exact .inr ⟨e, by simpa using h1.symm⟩
    · rw [if_neg e] at h1; exact .inl h1
  refine ⟨?_, ?_, fun l u hl => ?_, fun j u hl => ?_, fun j u hl => ?_⟩
  · have : (A.cutV v vs).size = A.size := by unfold ASt.cutV; rw [(goneAll_same _ _).1, A.size_set]
    rw [this]; exact Nat.le_trans hu h.fit
  · have : (A.cutV v vs).size = A.size := by unfold ASt.cutV; rw [(goneAll_same _ _).1, A.size_set]
    rw [this]; exact h.big
  · rcases key l u hl with h1 | ⟨_, rfl⟩
    · exact h.word l u h1
    · omega
  · rw [cV]
    rcases key _ u hl with h1 | ⟨e, _⟩
    · exact h.headLe j u h1
    · cases e
  · rcases key _ u hl with h1 | ⟨e, rfl⟩
    · exact h.nextLe j u h1
    · omega
theorem AOk.dropV (h : AOk A) {i v : Nat} (hu : (A.dropV i v 0).used ≤ A.used) : AOk (A.dropV i v 0) := by
  have key : ∀ l u, (A.dropV i v 0).at_ l = some u → A.at_ l = some u ∨ (l = .head i ∧ u = 0) := fun l u hl => by
    have h1 := (goneV_at hl).1
    rw [A.at_set] at h1
    by_cases e : l = .head i
    · rw [if_pos e] at h1
      cases hx : A.at_ l with
      | none => rw [hx] at h1; cases h1
      | some z => rw [hx] at h1; exact .inr ⟨e, by simpa using h1.symm⟩
    · rw [if_neg e] at h1; exact .inl h1
  refine ⟨Nat.le_trans hu h.fit, h.big, fun l u hl => ?_, fun j u hl => ?_, fun j u hl => ?_⟩
  · rcases key l u hl with h1 | ⟨_, rfl⟩
    · exact h.word l u h1
    · omega
  · show u ≤ (A.nV : Int)
    rcases key _ u hl with h1 | ⟨e, rfl⟩
    · exact h.headLe j u h1
    · omega
  · rcases key _ u hl with h1 | ⟨e, _⟩
    · exact h.nextLe j u h1
    · cases e

theorem Has.nilU (w : World) : Has [] w w (.u64s (.slice none 0 0) []) := Has.nilW w
theorem u64_append {w5 : World} {v v' : Value} {l : List Int} {x : Int} (ob : Obj) (h : Has o w0 w (B.sep (.u64s v l))) (happ : Appended (w.alloc ob) w5 56 1 v v' (l.length + 1) (l.map (Value.int .u64) ++ [.int .u64 x])) :
    Has o w0 w5 (B.sep (.u64s v' (l ++ [x]))) := by
  obtain ⟨o1, h1, _, _, b1⟩ := h.right
  refine b1 w5 (.u64s v' (l ++ [x])) ?_
  have := h1.appendRow (m := 1) (news := [.int .u64 x]) ob happ
  unfold Part.u64s
  rw [List.length_append, List.map_append]
  exact this

/-- The reference's cells of a version that is seen. -/
theorem ref_ver (h : Has o w0 w (.rstore rb A rs)) {d : Nat} (hd : d < A.nV) : ∃ g cap, w.cell? ⟨rb, 1, none⟩ = some (.slice (some ⟨g, 0, none⟩) A.nV cap) ∧ w.cell? ⟨g, d * 5 + 1, none⟩ = some (.int .u64 (A.V d).begin_) ∧ w.cell? ⟨g, d * 5 + 2, none⟩ = some (.int .u64 (A.V d).end_) := by
  obtain ⟨x, h⟩ := h.rfOpen
  obtain ⟨_, c1, _⟩ := RfP.fields h
  obtain ⟨g, cap, e, _, _, h1, h2, _⟩ := RfP.ver h hd
  rw [e] at c1
  exact ⟨g, cap, c1, h1, h2⟩

theorem sweep_cells {X Y : Part} {lp : Option Addr} {lc : Nat} {L : List Nat} {d j : Nat} (h : Has o w0 w (((((Part.rstore rb A rs).sep E).sep (.nums (.slice lp L.length lc) L)).sep X).sep Y)) (hjl : j < L.length) (hd1 : L.getD j 0 = d + 1) (hdl : d < A.nV) :
    ∃ g1b gv cv, lp = some ⟨g1b, 0, none⟩ ∧ w.cell? ⟨g1b, j, none⟩ = some (.int .i64 ((d : Int) + 1)) ∧ w.cell? ⟨rb, 1, none⟩ = some (.slice (some ⟨gv, 0, none⟩) A.nV cv) ∧ w.cell? ⟨gv, d * 5 + 1, none⟩ = some (.int .u64 (A.V d).begin_) ∧ w.cell? ⟨gv, d * 5 + 2, none⟩ = some (.int .u64 (A.V d).end_) := by
  obtain ⟨_, h5, _⟩ := h.left
  obtain ⟨_, h6, _⟩ := h5.left
  obtain ⟨_, h7, _⟩ := h6.right
  obtain ⟨_, _, e1, _, hc1⟩ := nums_row h7
  obtain ⟨rfl, rfl⟩ : lp = _ ∧ lc = _ := by simpa using e1
  obtain ⟨g1b, hp1, x1⟩ := hc1 j hjl
  rw [hd1] at x1
  obtain ⟨_, h8, _⟩ := h6.left
  obtain ⟨_, h9, _⟩ := h8.left
  obtain ⟨gv, cv, y0, y1, y2⟩ := ref_ver h9 hdl
  exact ⟨g1b, gv, cv, hp1, x1, y0, y1, y2⟩

theorem tkA_aok {A : ASt} (hok : AOk A) (h : Chs A ch) {i : Nat} (hi : i < A.nN) {pre vs : List Nat} (e : ch i = pre ++ vs) : AOk (tkA mark A ch i vs).1 := by
  have hl := h.link i hi
  have hf := hl.falls h.down
  rw [e] at hl hf
  have hm := (Linked.tail pre hl).mem
  have hfv := (List.pairwise_append.1 hf).2.1
  have hu := tkA_used (mark := mark) h hi e
  rcases tkA_eq mark A ch i vs with ⟨ht, _⟩ | ⟨s, hs, hlt, ht⟩ | ⟨hs, h0, hc, ht⟩
  · rw [ht]; exact hok
  · rw [ht] at hu ⊢
    exact hok.cutV h hi (pre := pre) (by dsimp only at hu; omega)
  · have h1 := cutV_used (A := A) (v := vs.getD 0 0) (post := vs.drop 1) (hfv.sublist (List.drop_sublist _ _)) fun u hu => hm u (List.mem_of_mem_drop hu)
    rw [ht] at hu ⊢
    rw [List.length_drop] at h1
    exact (hok.cutV h hi (pre := pre) (by omega)).dropV (by dsimp only at hu; omega)

theorem one_ok {t : Tri} (hok : AOk t.1) (hc : Chs t.1 t.2.1) (x : Int) : AOk (one mark t x).1 ∧ Chs (one mark t x).1 (one mark t x).2.1 ∧ (one mark t x).1.used + 3 * (one mark t x).2.2 = t.1.used + 3 * t.2.2 ∧ (one mark t x).1.nV = t.1.nV ∧ (one mark t x).1.nN = t.1.nN := by
  unfold one
  cases hl : chL t.1 t.2.1 x with
  | nil => exact ⟨hok, hc, rfl, rfl, rfl⟩
  | cons u r =>
    unfold chL at hl
    by_cases hN : t.1.isN x = true
    · rw [if_pos hN] at hl
      obtain ⟨j, rfl, hj, ej, _⟩ := isN_head hc hN
      rw [ej] at hl ⊢
      have e : t.2.1 j = [] ++ (u :: r) := hl
      have hu := tkA_used (mark := mark) hc hj e
      refine ⟨tkA_aok hok hc hj e, (tkA_chs hc hj (by simp) e).1, ?_, (tkA_nN _ _ _ _ _).2, (tkA_nN _ _ _ _ _).1⟩
      show (tkA mark t.1 t.2.1 j (u :: r)).1.used + 3 * (t.2.2 + (tkA mark t.1 t.2.1 j (u :: r)).2.2) = _
      omega
    · rw [if_neg hN] at hl; cases hl

theorem fold_ok (l : List Int) {t : Tri} (hok : AOk t.1) (hc : Chs t.1 t.2.1) : AOk (l.foldl (one mark) t).1 ∧ Chs (l.foldl (one mark) t).1 (l.foldl (one mark) t).2.1 ∧ (l.foldl (one mark) t).1.used + 3 * (l.foldl (one mark) t).2.2 = t.1.used + 3 * t.2.2 ∧ (l.foldl (one mark) t).1.nV = t.1.nV ∧ (l.foldl (one mark) t).1.nN = t.1.nN := by
  induction l generalizing t with
  | nil => exact ⟨hok, hc, rfl, rfl, rfl⟩
  | cons x l ih =>
    obtain ⟨a1, a2, a3, a4, a5⟩ := one_ok (mark := mark) hok hc x
    obtain ⟨b1, b2, b3, b4, b5⟩ := ih a1 a2
    exact ⟨b1, b2, b3.trans a3, b4.trans a4, b5.trans a5⟩

theorem one_of {t : Tri} {x : Int} {L : List Nat} (h : chL t.1 t.2.1 x = L) (h0 : L ≠ []) : one mark t x = tkT mark t (x - 1).toNat L := by
  unfold one
  rw [h]
  cases L with
  | nil => exact absurd rfl h0
  | cons u r => rfl

set_option maxHeartbeats 8000000 in
set_option maxRecDepth 100000 in
theorem rsweep_walk (h : Has o w0 w ((Part.rstore rb A rs).sep E)) (hok : AOk A) (hc : Chs A ch) (p : Option Addr) (m c : Nat) (f : Nat → Int) (hE : ∀ o w, Has o w w E → RowAt w (.slice p m c) m (fun k => .int .i64 (f k))) (hm9 : m ≤ 1000000) (hV : A.nV ≤ 1000000) :
    Calls Tryd.prog 21 #[P0 rb, .slice p m c, .int .i64 mark] w fun e w' => e = .returned (.int .i64 ((((List.range m).map f).foldl (one mark) (A, ch, 0)).2.2 : Nat)) ∧ Has o w0 w' ((Part.rstore rb (((List.range m).map f).foldl (one mark) (A, ch, 0)).1 rs).sep E) := by
  have HX := Lib.hid h
  have HOK := Lib.hid hok
  have HC := Lib.hid hc
  have HEE := Lib.hid hE
  obtain ⟨i0, hi0, hz0, hz1, hz2⟩ := info_parts info_u64
  clear h hok hc hE
  go_enter Tryd.func21, Tryd.ntmps21
  go_wp2_with fail
  go_loopg [7, 8] m (fun k gv iv wr => ∃ (i : Nat) (t : Tri), i ≤ m ∧ k = m - i ∧ iv = .int .i64 i ∧ t = ((List.range i).map f).foldl (one mark) (A, ch, 0) ∧ gv = .int .i64 (t.2.2 : Nat) ∧ AOk t.1 ∧ Chs t.1 t.2.1 ∧ t.1.used + 3 * t.2.2 = A.used ∧ t.1.nV = A.nV ∧ Has o w0 wr ((Part.rstore rb t.1 rs).sep E))
  case atStart => exact ⟨0, _, Nat.zero_le _, rfl, rfl, rfl, rfl, HOK.out, HC.out, rfl, rfl, HX.out⟩
  case round =>
    clear HX
    obtain ⟨i, ⟨A1, ch1, gn⟩, hi, hk, rfl, ht, rfl, hok, hc, hu, hv, hX⟩ := hrel
    have HKK := Lib.hid hk
    have HT := Lib.hid ht
    have HO1 := Lib.hid hok
    have HC1 := Lib.hid hc
    have HU1 := Lib.hid hu
    have HV1 := Lib.hid hv
    have HX := Lib.hid hX
    clear hk ht hok hc hu hv hX
    dsimp only
    by_cases hlt : i < m
    · have d1 : decide ((i : Int) < (m : Int)) = true := by simp; omega
      have d1' : decide (i < m) = true := by simp; omega
      have q1 : 0 ≤ (i : Int) ∧ (i : Int) < (m : Int) := by omega
      obtain ⟨_, h1, _⟩ := HX.out.right
      obtain ⟨g, off, hp, cg⟩ := row_cell (HEE.out _ _ h1) rfl (k := i) hlt
      subst hp
      obtain ⟨x, hx⟩ : ∃ x, f i = x := ⟨_, rfl⟩
      rw [hx] at cg
      have HXX := Lib.hid hx
      have hV1 : A1.nV ≤ 1000000 := by have : A1.nV = A.nV := HV1.out; omega
      have HCH := Lib.hid (show Calls Tryd.prog 18 #[P0 rb, .int .i64 x] _ fun e w' => ∃ lv, e = .returned lv ∧ Has o w0 w' (((Part.rstore rb A1 rs).sep E).sep (.nums lv (chL A1 ch1 x))) from by
        obtain ⟨o1, h2, _, _, b1⟩ := HX.out.left
        refine (rchain_any h2 HO1.out HC1.out x hV1).mono ?_
        rintro e w' ⟨lv, rfl, h'⟩
        exact ⟨lv, rfl, Has.pull (b1 _ _ h')⟩)
      clear HX h1 hx
      go_wp2_with fail
      refine HCH.out.mono ?_
      rintro e w4 ⟨lv, rfl, hX⟩
      obtain ⟨_, h7, _⟩ := hX.right
      obtain ⟨lp, lc, rfl, hs1, _⟩ := nums_row h7
      have HX4 := Lib.hid ((hX.beside (Has.nilU _)).beside (Has.nilU _))
      have HLK := Lib.hid (show ∀ d ∈ chL A1 ch1 x, 1 ≤ d ∧ A1.ver (d - 1) = true from fun d hd => by
        unfold chL at hd
        split at hd
        · rename_i hN
          obtain ⟨j, rfl, hj, ej, _⟩ := isN_head HC1.out hN
          rw [ej] at hd
          exact (HC1.out.link j hj).mem d hd
        · simp at hd)
      obtain ⟨L, hL⟩ : ∃ L, chL A1 ch1 x = L := ⟨_, rfl⟩
      rw [hL] at HX4 HLK hs1
      have HLL := Lib.hid hL
      have HL9 := Lib.hid (show L.length ≤ 1000000 from by
        rw [← hL]; unfold chL
        split
        · rename_i hN
          obtain ⟨j, rfl, hj, ej, _⟩ := isN_head HC1.out hN
          rw [ej]; have := chain_len HC1.out hj; omega
        · simp)
      clear hX h7 HCH
      rw [hL]
      clear hL
      go_wp2_with fail
      go_loopg [10, 11, 12] L.length (fun k bv ev jv wx => ∃ j : Nat, j ≤ L.length ∧ k = L.length - j ∧ jv = .int .i64 j ∧ Has o w0 wx (((((Part.rstore rb A1 rs).sep E).sep (.nums (.slice lp L.length lc) L)).sep (.u64s bv ((L.take j).map (bgn A1)))).sep (.u64s ev ((L.take j).map (enn A1)))))
      case atStart => exact ⟨0, Nat.zero_le _, rfl, rfl, by simpa using HX4.out⟩
      case round =>
        clear HX4
        obtain ⟨j, hj, hkj, rfl, hX⟩ := hrel
        have HKJ := Lib.hid hkj
        have HX := Lib.hid hX
        clear hkj hX
        by_cases hjl : j < L.length
        · have g1 : decide ((j : Int) < (L.length : Int)) = true := by simp; omega
          have g1' : decide (j < L.length) = true := by simp; omega
          have q2 : 0 ≤ (j : Int) ∧ (j : Int) < (L.length : Int) := by omega
          obtain ⟨d, hd1, hd2⟩ : ∃ d, L.getD j 0 = d + 1 ∧ A1.ver d = true := by
            have hm := HLK.out (L.getD j 0) (by rw [List.getD_eq_getElem?_getD, List.getElem?_eq_getElem hjl]; exact List.getElem_mem hjl)
            exact ⟨L.getD j 0 - 1, by omega, hm.2⟩
          have hdl := ver_lt hd2
          have HD1 := Lib.hid hd1
          have HSN := Lib.hid (show L.take (j + 1) = L.take j ++ [d + 1] by
            rw [List.take_add_one, List.getElem?_eq_getElem hjl]
            rw [List.getD_eq_getElem?_getD, List.getElem?_eq_getElem hjl] at hd1
            simp at hd1; simp [hd1])
          have hj6 : j ≤ 1000000 := by have := HL9.out; omega
          obtain ⟨g1b, gv, cv, rfl, x1, y0, y1, y2⟩ := sweep_cells HX.out hjl hd1 hdl
          have q5 : 0 ≤ (d : Int) ∧ (d : Int) < (A1.nV : Int) := by omega
          have q6 : A1.nV ≤ 9223372036854775807 := by omega
          have e8 : IntKind.i64.wrap (d : Int) = (d : Int) := by unfold IntKind.wrap; simp [IntKind.bits, IntKind.signed]; omega
          obtain ⟨_, h5, _⟩ := HX.out.left
          obtain ⟨_, h10, _⟩ := h5.right
          obtain ⟨pb, cb, rfl, _⟩ := u64_ints h10
          have hlt1 : (List.map (bgn A1) (L.take j)).length = j := by simp; omega
          have hlt2 : (List.map (enn A1) (L.take j)).length = j := by simp; omega
          obtain ⟨_, h11, _⟩ := HX.out.right
          obtain ⟨pe, ce, rfl, _⟩ := u64_ints h11
          have HROWB := Lib.hid (show wr.drew.ownsRow 0 56 1 (.slice pb (List.map (bgn A1) (L.take j)).length cb) (List.map (bgn A1) (L.take j)).length ((List.map (bgn A1) (L.take j)).map (Value.int .u64)) from by
            obtain ⟨fp, ⟨hr, _⟩, _⟩ := (h10.drewN 1); exact hr)
          rw [hlt1] at HROWB
          rw [hlt1, hlt2] at HX
          have HXB := Lib.hid (show ∀ w5 v' ob, Appended (wr.drew.alloc ob) w5 56 1 (.slice pb j cb) v' (j + 1) ((List.map (bgn A1) (L.take j)).map (Value.int .u64) ++ [.int .u64 (A1.V d).begin_]) → Has o w0 w5 (((((Part.rstore rb A1 rs).sep E).sep (.nums (.slice (some ⟨g1b, 0, none⟩) L.length lc) L)).sep (.u64s v' ((L.take (j + 1)).map (bgn A1)))).sep (.u64s (.slice pe j ce) ((L.take j).map (enn A1)))) from fun w5 v' ob happ => by
            obtain ⟨o9, h9, _, _, b9⟩ := (HX.out.drewN 1).left
            rw [HSN.out, List.map_append]
            refine b9 _ _ (u64_append ob h9 ?_)
            rw [hlt1]; exact happ)
          clear h5 h10 h11 hd1 hd2 HX
          rw [hlt1, hlt2]
          go_wp2_with fail
          go_region_law
            (refine step_append_new rfl (.tmp 32) (.tmp 45) 31 rfl 56 i0 (.int .u64 0) 1 8 Tryd.underlying31 hi0 hz0 hz1 hz2 rfl (by decide) (.slice pb j cb) j ((List.map (bgn A1) (L.take j)).map (Value.int .u64)) rfl (HROWB.out.alloc _) ⟨_, 0, none⟩ 1 1 [.int .u64 (A1.V d).begin_] rfl rfl (cell_one _ _ _ _ (by simp)) (by simp [Value.oneCell']) (by simp only [maxLen]; omega) (by omega) ?_
             intro v' w5 happ
             have HX5 := Lib.hid (HXB.out _ _ _ happ)
             clear happ)
          all_goals (
            obtain ⟨g1c, gv2, cv2, eg, x1, y0, y1, y2⟩ := sweep_cells HX5.out hjl HD1.out hdl
            obtain rfl : g1b = g1c := by simpa using eg
            obtain ⟨_, h11, _⟩ := HX5.out.right
            have HROWE := Lib.hid (show w5.drew.ownsRow 0 56 1 (.slice pe j ce) (List.map (enn A1) (L.take j)).length ((List.map (enn A1) (L.take j)).map (Value.int .u64)) from by
              obtain ⟨fp, ⟨hr, _⟩, _⟩ := (h11.drewN 1); exact hr)
            rw [hlt2] at HROWE
            have HXE := Lib.hid (show ∀ w6 v6 ob, Appended (w5.drew.alloc ob) w6 56 1 (.slice pe j ce) v6 (j + 1) ((List.map (enn A1) (L.take j)).map (Value.int .u64) ++ [.int .u64 (A1.V d).end_]) → Has o w0 w6 (((((Part.rstore rb A1 rs).sep E).sep (.nums (.slice (some ⟨g1b, 0, none⟩) L.length lc) L)).sep (.u64s v' ((L.take (j + 1)).map (bgn A1)))).sep (.u64s v6 ((L.take (j + 1)).map (enn A1)))) from fun w6 v6 ob happ => by
              rw [HSN.out, List.map_append (f := enn A1)]
              refine u64_append ob (by have := HX5.out.drewN 1; rw [HSN.out] at this; exact this) ?_
              rw [hlt2]; exact happ)
            clear h11 eg HX5 HXB
            go_wp2_with fail
            go_region_law
              (refine step_append_new rfl (.tmp 47) (.tmp 60) 31 rfl 56 i0 (.int .u64 0) 1 8 Tryd.underlying31 hi0 hz0 hz1 hz2 rfl (by decide) (.slice pe j ce) j ((List.map (enn A1) (L.take j)).map (Value.int .u64)) rfl (HROWE.out.alloc _) ⟨_, 0, none⟩ 1 1 [.int .u64 (A1.V d).end_] rfl rfl (cell_one _ _ _ _ (by simp)) (by simp [Value.oneCell']) (by simp only [maxLen]; omega) (by omega) ?_
               intro v6 w6 happ
               have HX6 := Lib.hid (HXE.out _ _ _ happ)
               clear happ)
            all_goals (
              go_wp2_with fail
              go_roundg (L.length - (j + 1))
              case measure => rw [HKJ.out]; omega
              case rel => exact ⟨j + 1, by omega, rfl, by go_num, HX6.out⟩))
        · have g1 : decide ((j : Int) < (L.length : Int)) = false := by simp; omega
          have g1' : decide (j < L.length) = false := by simp; omega
          obtain rfl : j = L.length := by omega
          rw [List.take_length] at HX
          obtain ⟨_, h10, _⟩ := HX.out.left
          obtain ⟨_, h11, _⟩ := h10.right
          obtain ⟨_, h12, _⟩ := HX.out.right
          have hst : ∀ d ∈ L, 0 ≤ bgn A1 d ∧ bgn A1 d < 18446744073709551616 ∧ 0 ≤ enn A1 d ∧ enn A1 d < 18446744073709551616 := fun d hd => by
            have hv := (HLK.out d hd).2
            have h1 := HO1.out.word _ _ (some_ofV hv).1
            have h2 := HO1.out.word _ _ (some_ofV hv).2.1
            exact ⟨h1.1, h1.2, h2.1, h2.2⟩
          obtain ⟨pb, cb, rfl, rb⟩ := u64s_row h11 fun y hy => by
            obtain ⟨d, hd, rfl⟩ := List.mem_map.1 hy
            exact ⟨(hst d hd).1, (hst d hd).2.1⟩
          obtain ⟨pe, ce, rfl, re⟩ := u64s_row h12 fun y hy => by
            obtain ⟨d, hd, rfl⟩ := List.mem_map.1 hy
            exact ⟨(hst d hd).2.2.1, (hst d hd).2.2.2⟩
          rw [List.length_map] at rb re
          simp only [List.length_map]
          obtain ⟨K, hK⟩ : ∃ K, stayL A1 mark L = K := ⟨_, rfl⟩
          have HK := Lib.hid hK
          have hKL : K ≤ L.length := by rw [← hK]; exact stayL_le A1 mark L
          have HKP := Lib.hid (show Calls Tryd.prog 16 #[.slice pb L.length cb, .slice pe L.length ce, .int .i64 mark] wr fun e w' => e = .returned (.int .i64 (K : Nat)) ∧ w' = wr from by
            rw [← hK, stay_map]
            exact rkeep_walk wr pb pe L.length L.length cb ce _ _ mark rb re L.length (by simp))
          have HXN := Lib.hid HX.out.fst.fst
          have hgn : gn ≤ 65536 := by have h1 := HU1.out; have h2 := HOK.out.fit; have h3 := HOK.out.big; omega
          have hL6 : L.length ≤ 1000000 := HL9.out
          clear h10 h11 h12 hst rb re hK HX
          go_wp2_with fail
          refine HKP.out.mono ?_
          rintro e W5 ⟨rfl, rfl⟩
          have HSUC := Lib.hid (show ((List.range (i + 1)).map f).foldl (one mark) (A, ch, 0) = one mark (A1, ch1, gn) x by
            rw [List.range_succ, List.map_append, List.foldl_append, ← HT.out, ← HXX.out]; rfl)
          clear HKP
          by_cases hKl : K = L.length
          · have f1 : decide ((K : Int) = (L.length : Int)) = true := by simp; omega
            have f1' : ((K : Int) == (L.length : Int)) = true := by simp; omega
            have HON := Lib.hid (show one mark (A1, ch1, gn) x = (A1, ch1, gn) from by
              by_cases h0 : L = []
              · unfold one; rw [show chL (A1, ch1, gn).1 (A1, ch1, gn).2.1 x = [] from HLL.out.trans h0]
              · rw [one_of (L := L) HLL.out h0]
                unfold tkT
                rcases tkA_eq mark A1 ch1 (x - 1).toNat L with ⟨ht, _⟩ | ⟨s, hs, hlt, ht⟩ | ⟨hs, h0, _, ht⟩
                · show ((tkA mark A1 ch1 (x - 1).toNat L).1, (tkA mark A1 ch1 (x - 1).toNat L).2.1, gn + (tkA mark A1 ch1 (x - 1).toNat L).2.2) = _
                  rw [ht]; rfl
                · have := HK.out; omega
                · have := HK.out; omega)
            clear hKL
            go_wp2_with fail
            go_roundg (m - (i + 1))
            case measure => rw [HKK.out]; omega
            case rel => exact ⟨i + 1, (A1, ch1, gn), by omega, rfl, by go_num, by rw [HSUC.out, HON.out], rfl, HO1.out, HC1.out, HU1.out, HV1.out, HXN.out.fst⟩
          · have f1 : decide ((K : Int) = (L.length : Int)) = false := by simp; omega
            have f1' : ((K : Int) == (L.length : Int)) = false := by simp; omega
            obtain ⟨j, hxj, hj, hcj⟩ : ∃ j : Nat, x = (j : Int) + 1 ∧ j < A1.nN ∧ ch1 j = L := by
              have h1 : chL A1 ch1 x = L := HLL.out
              unfold chL at h1
              by_cases hN : A1.isN x = true
              · rw [if_pos hN] at h1
                obtain ⟨j, hxj, hj, ej, _⟩ := isN_head HC1.out hN
                exact ⟨j, hxj, hj, by rw [← ej]; exact h1⟩
              · rw [if_neg hN] at h1
                rw [← h1] at hKl hKL
                exact absurd (Nat.le_zero.1 hKL) hKl
            have hL0 : L ≠ [] := fun e => by rw [e] at hKl hKL; exact hKl (Nat.le_zero.1 hKL)
            have hlk : Linked A1 L := by rw [← hcj]; exact HC1.out.link j hj
            have hfal : L.Pairwise (· > ·) := hlk.falls HC1.out.down
            have HHD := Lib.hid (show A1.at_ (.head j) = some (hd L) from by rw [(some_of hj).1, HC1.out.head j hj, hcj])
            have hone := one_of (mark := mark) (t := (A1, ch1, gn)) (x := x) (L := L) HLL.out hL0
            rw [show (x - 1).toNat = j by omega] at hone
            have HOK1 := Lib.hid (one_ok (mark := mark) (t := (A1, ch1, gn)) HO1.out HC1.out x)
            have hcutg : ∀ s, s < L.length → ∃ d, L.getD s 0 = d + 1 ∧ d < A1.nV ∧ A1.ver d = true ∧ (∀ u ∈ L.drop (s + 1), 1 ≤ u ∧ u ≠ d + 1) ∧ (A1.cutV (d + 1) (L.drop (s + 1))).used ≤ A1.used ∧
                ∀ (W : World), Has o w0 W (((Part.rstore rb A1 rs).sep E).sep (.nums (.slice lp L.length lc) L)) → Calls Tryd.prog 43 #[P0 rb, .int .i64 ((d : Int) + 1)] W fun e w' => e = .returned (.tuple #[.int .i64 ((L.drop (s + 1)).length : Nat), .int .i64 0]) ∧ Has o w0 w' (((Part.rstore rb (A1.cutV (d + 1) (L.drop (s + 1))) rs).sep E).sep (.nums (.slice lp L.length lc) L)) := fun s hs => by
              obtain ⟨d, nx, hd1, hd2, hd3, hd4, hd5⟩ := hlk.here HC1.out.down s hs
              have hpw := hfal.sublist (List.drop_sublist (s + 1) L)
              have hmm : ∀ u ∈ L.drop (s + 1), 1 ≤ u ∧ A1.ver (u - 1) = true := fun u hu => hlk.mem u (List.mem_of_mem_drop hu)
              refine ⟨d, hd1, ver_lt hd2, hd2, fun u hu => ⟨(hmm u hu).1, fun eq => ?_⟩, ?_, fun W hW => ?_⟩
              · have hf2 := hfal
                rw [split_at L s hs, hd1] at hf2
                have := (List.pairwise_cons.1 (List.pairwise_append.1 hf2).2.1).1 u hu
                omega
              · have := cutV_used (A := A1) (v := d + 1) hpw hmm; omega
              · obtain ⟨o8, h8, _, _, b8⟩ := hW.left
                obtain ⟨o9, h9, _, _, b9⟩ := h8.left
                refine (rcut_at h9 HO1.out d nx hd3 (by omega) (by rw [← hd5]; exact fun u hu => ⟨(hmm u hu).1, by rw [ASt.ver_set]; exact (hmm u hu).2⟩) (by rw [← hd5]; exact hpw) (by rw [← hd5, List.length_drop]; omega)).mono ?_
                rintro e w' ⟨rfl, h'⟩
                rw [← hd5] at h' ⊢
                exact ⟨rfl, b8 _ _ (b9 _ _ h')⟩
            have hcell : ∀ (W : World) (B' : Part) s d, s < L.length → L.getD s 0 = d + 1 → Has o w0 W (B'.sep (.nums (.slice lp L.length lc) L)) → ∃ g1b, lp = some ⟨g1b, 0, none⟩ ∧ W.cell? ⟨g1b, s, none⟩ = some (.int .i64 ((d : Int) + 1)) := fun W B' s d hs hd hW => by
              obtain ⟨_, h7, _⟩ := hW.right
              obtain ⟨_, _, e1, _, hc1⟩ := nums_row h7
              obtain ⟨rfl, rfl⟩ : lp = _ ∧ lc = _ := by simpa using e1
              obtain ⟨g1b, hp1, x1⟩ := hc1 s hs
              rw [hd] at x1
              exact ⟨g1b, hp1, x1⟩
            by_cases hK0 : 0 < K
            · obtain ⟨s, rfl⟩ : ∃ s, K = s + 1 := ⟨K - 1, by omega⟩
              obtain ⟨d, hd1, hdl, hdv, hdm, hdu, hcut⟩ := hcutg s (by omega)
              obtain ⟨g1b, rfl, x1⟩ := hcell _ _ s d (by omega) hd1 HXN.out
              have HC3 := Lib.hid (hcut _ HXN.out)
              have HON := Lib.hid (show one mark (A1, ch1, gn) x = (A1.cutV (d + 1) (L.drop (s + 1)), updL ch1 j ((ch1 j).take ((ch1 j).length - (L.length - (s + 1)))), gn + (L.length - (s + 1))) from by
                rw [hone]
                unfold tkT
                rcases tkA_eq mark A1 ch1 j L with ⟨ht, hq⟩ | ⟨s', hs', hlt', ht⟩ | ⟨hs', h0, _, ht⟩
                · have := HK.out; rcases hq with hq | hq
                  · omega
                  · omega
                · have := HK.out
                  obtain rfl : s' = s := by omega
                  show ((tkA mark A1 ch1 j L).1, (tkA mark A1 ch1 j L).2.1, gn + (tkA mark A1 ch1 j L).2.2) = _
                  rw [ht, hd1]
                · have := HK.out; omega)
              have hcast : ((s + 1 : Nat) : Int) = (s : Int) + 1 := rfl
              have q7 : 0 ≤ (s : Int) ∧ (s : Int) < (L.length : Int) := by omega
              have q8 : decide ((s : Int) + 1 > 0) = true := by simp only [decide_eq_true_eq]; omega
              have e7 : IntKind.i64.wrap ((gn : Int) + (L.length : Int)) = (gn : Int) + (L.length : Int) := by unfold IntKind.wrap; simp [IntKind.bits, IntKind.signed]; omega
              have e8 : IntKind.i64.wrap ((gn : Int) + (L.length : Int) - ((s : Int) + 1)) = ((gn + (L.length - (s + 1)) : Nat) : Int) := by unfold IntKind.wrap; simp [IntKind.bits, IntKind.signed]; omega
              have e9 : IntKind.i64.wrap (s : Int) = (s : Int) := by unfold IntKind.wrap; simp [IntKind.bits, IntKind.signed]; omega
              rw [hcast] at f1 f1' ⊢
              clear hcutg hcell hcut hone hd1 hdm hxj hcj hlk hfal hL0 hKl hKL hK0
              go_wp2_with fail
              refine HC3.out.mono ?_
              rintro e W6 ⟨rfl, hX⟩
              have HX6 := Lib.hid hX
              clear hX HC3
              go_wp2_with fail
              go_roundg (m - (i + 1))
              case measure => rw [HKK.out]; omega
              case rel => exact ⟨i + 1, one mark (A1, ch1, gn) x, by omega, rfl, by go_num, by rw [HSUC.out], by rw [HON.out]; first | rfl | simp, HOK1.out.1, HOK1.out.2.1, by rw [HOK1.out.2.2.1]; exact HU1.out, by rw [HOK1.out.2.2.2.1]; exact HV1.out, by rw [HON.out]; exact HX6.out.fst⟩
            · obtain rfl : K = 0 := by omega
              obtain ⟨d, hd1, hdl, hdv, hdm, hdu, hcut⟩ := hcutg 0 (by omega)
              obtain ⟨g1b, rfl, x1⟩ := hcell _ _ 0 d (by omega) hd1 HXN.out
              have HC3 := Lib.hid (hcut _ HXN.out)
              have HON := Lib.hid (show one mark (A1, ch1, gn) x = ((A1.cutV (d + 1) (L.drop 1)).dropV j (d + 1) 0, updL ch1 j [], gn + L.length) from by
                rw [hone]
                unfold tkT
                rcases tkA_eq mark A1 ch1 j L with ⟨ht, hq⟩ | ⟨s', hs', hlt', ht⟩ | ⟨hs', h0, _, ht⟩
                · have := HK.out; rcases hq with hq | hq
                  · omega
                  · exact absurd hcj hq.2
                · have := HK.out; omega
                · show ((tkA mark A1 ch1 j L).1, (tkA mark A1 ch1 j L).2.1, gn + (tkA mark A1 ch1 j L).2.2) = _
                  rw [ht, hd1])
              have hhd : hd L = (d : Int) + 1 := by
                cases L with
                | nil => exact absurd rfl hL0
                | cons v l => show (v : Int) = _; rw [show v = d + 1 from hd1]; rfl
              have HH2 := Lib.hid (show (A1.cutV (d + 1) (L.drop (0 + 1))).at_ (.head j) = some ((d : Int) + 1) from by
                have h1 := HHD.out
                unfold ASt.at_ at h1 ⊢
                rw [(cutV_N A1 _ _).1, (cutV_N A1 _ _).2.1, ← hhd]
                exact h1)
              have HL2 := Lib.hid (show (A1.cutV (d + 1) (L.drop (0 + 1))).at_ (.next d) = some 0 from by
                have hv2 : (A1.cutV (d + 1) (L.drop (0 + 1))).ver d = true := by
                  rw [cutV_ver A1 (fun u hu => (hdm u hu).1), hdv]
                  simp only [Bool.true_and, decide_eq_true_eq]
                  exact fun hm => (hdm _ hm).2 rfl
                rw [(some_ofV hv2).2.2, cutV_V A1 (fun u hu => (hdm u hu).1)]
                simp)
              have HA2 := Lib.hid (HO1.out.cutV HC1.out hj (pre := []) hdu)
              have HXJ := Lib.hid hxj
              have q7 : 0 ≤ (0 : Int) ∧ (0 : Int) < (L.length : Int) := by omega
              have q9 : (0 : Int) < (L.length : Int) := by omega
              have e7 : IntKind.i64.wrap ((gn : Int) + (L.length : Int)) = (gn : Int) + (L.length : Int) := by unfold IntKind.wrap; simp [IntKind.bits, IntKind.signed]; omega
              have hcast : ((0 : Nat) : Int) = 0 := rfl
              rw [hcast] at f1 f1' ⊢
              clear hcutg hcell hcut hone hd1 hdm hxj hcj hlk hfal hL0 hKl hKL hK0 hhd
              go_wp2_with fail
              refine HC3.out.mono ?_
              rintro e W6 ⟨rfl, hX⟩
              have HX6 := Lib.hid hX
              obtain ⟨_, h8, _⟩ := hX.left
              obtain ⟨_, h9, _⟩ := h8.right
              obtain ⟨g6, off6, hp6, cg6⟩ := row_cell (HEE.out _ _ h9) rfl (k := i) hlt
              obtain ⟨rfl, rfl⟩ : g = g6 ∧ off = off6 := by simpa using hp6
              rw [HXX.out] at cg6
              have HDR := Lib.hid (show Calls Tryd.prog 44 #[P0 rb, .int .i64 x] W6 fun e w' => e = .returned (.int .i64 0) ∧ Has o w0 w' (((Part.rstore rb ((A1.cutV (d + 1) (L.drop 1)).dropV j (d + 1) 0) rs).sep E).sep (.nums (.slice (some ⟨g1b, 0, none⟩) L.length lc) L)) from by
                obtain ⟨o8, h8, _, _, b8⟩ := HX6.out.left
                obtain ⟨o9, h9, _, _, b9⟩ := h8.left
                rw [HXJ.out]
                refine (rdrop_at h9 HA2.out j d 0 HH2.out HL2.out).mono ?_
                rintro e w' ⟨rfl, h'⟩
                exact ⟨rfl, b8 _ _ (b9 _ _ h')⟩)
              clear hX h8 h9 HC3 x1
              go_wp2_with fail
              refine HDR.out.mono ?_
              rintro e W7 ⟨rfl, hX⟩
              have HX7 := Lib.hid hX
              clear hX HDR
              go_wp2_with fail
              go_roundg (m - (i + 1))
              case measure => rw [HKK.out]; omega
              case rel => exact ⟨i + 1, one mark (A1, ch1, gn) x, by omega, rfl, by go_num, by rw [HSUC.out], by rw [HON.out]; simp, HOK1.out.1, HOK1.out.2.1, by rw [HOK1.out.2.2.1]; exact HU1.out, by rw [HOK1.out.2.2.2.1]; exact HV1.out, by rw [HON.out]; exact HX7.out.fst⟩
    · have d1 : decide ((i : Int) < (m : Int)) = false := by simp; omega
      have d1' : decide (i < m) = false := by simp; omega
      obtain rfl : i = m := by omega
      have HTT := Lib.hid HT.out.symm
      go_wp2_with fail
      go_ret
      rw [HTT.out]
      exact ⟨rfl, HX.out⟩
end Go.Proofs.YtbodobdllchmgaaDoor
