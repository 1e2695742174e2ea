/- The walk of the document's Sweep over the reference's store.
The plain law of what is seen: a sweep takes nothing away that is seen at the mark or later; what is swept stays swept. Nothing is claimed of a program here.
Gaps of the law that came in, as they are read; chains that are made of them.
Gaps of the law that came in, opened to their numbers. Nothing is claimed of a program's calls here. -/
import Derived.Test.YtbodobdllchmgaaDoorMBetween13
import Derived.StillTailTactics
import Derived.Test.YtbodobdllchmgaaDoorMBetween12
import Derived.Test.YtbodobdllchmgaaDoorMBetween2
namespace Go.Proofs.YtbodobdllchmgaaDoor
open Go Go.RowKit
set_option linter.unusedVariables false

variable {o : List Nat} {w0 w : World} {b rb : Nat} {A : ASt} {rs s mark : Int} {B N C E : Part} {ch : Nat → List Nat}

theorem goneAll_at_sub (l : List Nat) (A : ASt) {x : Loc} {v : Int} (h : (A.goneAll l).at_ x = some v) : A.at_ x = some v := by
  induction l generalizing A with
  | nil => exact h
  | cons c cs ih => exact (goneV_at (ih (A.goneV (c - 1)) h)).1

theorem AOk.cutV (h : AOk A) (hc : Chs A ch) {i : Nat} (hi : i < A.nN) {pre vs : List Nat} {v : Nat} (hu : (A.cutV v vs).used ≤ A.used) : AOk (A.cutV v vs) := by
  obtain ⟨cN, cn, cV⟩ := cutV_N A v vs
  have key : ∀ l u, (A.cutV v vs).at_ l = some u → A.at_ l = some u ∨ (l = .next (v - 1) ∧ u = 0) := fun l u hl => by
    have h1 := goneAll_at_sub vs _ hl
    rw [A.at_set] at h1
    by_cases e : l = .next (v - 1)
    · rw [if_pos e] at h1
      cases hx : A.at_ l with
      | none => rw [hx] at h1; cases h1
      | some z => rw [hx] at h1; exact .inr ⟨e, by simpa using h1.symm⟩
    · rw [if_neg e] at h1; exact .inl h1
  refine ⟨?_, ?_, fun l u hl => ?_, fun j u hl => ?_, fun j u hl => ?_⟩
  · have : (A.cutV v vs).size = A.size := by unfold ASt.cutV; rw [(goneAll_same _ _).1, A.size_set]
    rw [this]; exact Nat.le_trans hu h.fit
  · have : (A.cutV v vs).size = A.size := by unfold ASt.cutV; rw [(goneAll_same _ _).1, A.size_set]
    rw [this]; exact h.big
  · rcases key l u hl with h1 | ⟨_, rfl⟩
    · exact h.word l u h1
    · omega
  · rw [cV]
    rcases key _ u hl with h1 | ⟨e, _⟩
    · exact h.headLe j u h1
    · cases e
  · rcases key _ u hl with h1 | ⟨e, rfl⟩
    · exact h.nextLe j u h1
    · omega
theorem AOk.dropV (h : AOk A) {i v : Nat} (hu : (A.dropV i v 0).used ≤ A.used) : AOk (A.dropV i v 0) := by
  have key : ∀ l u, (A.dropV i v 0).at_ l = some u → A.at_ l = some u ∨ (l = .head i ∧ u = 0) := fun l u hl => by
    have h1 := (goneV_at hl).1
    rw [A.at_set] at h1
    by_cases e : l = .head i
    · rw [if_pos e] at h1
      cases hx : A.at_ l with
      | none => rw [hx] at h1; cases h1
      | some z => rw [hx] at h1; exact .inr ⟨e, by simpa using h1.symm⟩
    · rw [if_neg e] at h1; exact .inl h1
  refine ⟨Nat.le_trans hu h.fit, h.big, fun l u hl => ?_, fun j u hl => ?_, fun j u hl => ?_⟩
  · rcases key l u hl with h1 | ⟨_, rfl⟩
    · exact h.word l u h1
    · omega
  · show u ≤ (A.nV : Int)
    rcases key _ u hl with h1 | ⟨e, rfl⟩
    · exact h.headLe j u h1
    · omega
  · rcases key _ u hl with h1 | ⟨e, _⟩
    · exact h.nextLe j u h1
    · cases e

theorem Has.nilU (w : World) : Has [] w w (.u64s (.slice none 0 0) []) := Has.nilW w
theorem u64_append {w5 : World} {v v' : Value} {l : List Int} {x : Int} (ob : Obj) (h : Has o w0 w (B.sep (.u64s v l))) (happ : Appended (w.alloc ob) w5 56 1 v v' (l.length + 1) (l.map (Value.int .u64) ++ [.int .u64 x])) :
    Has o w0 w5 (B.sep (.u64s v' (l ++ [x]))) := by
  obtain ⟨o1, h1, _, _, b1⟩ := h.right
  refine b1 w5 (.u64s v' (l ++ [x])) ?_
  have := h1.appendRow (m := 1) (news := [.int .u64 x]) ob happ
  unfold Part.u64s
  rw [List.length_append, List.map_append]
  exact this

/-- The reference's cells of a version that is seen. -/
theorem ref_ver (h : Has o w0 w (.rstore rb A rs)) {d : Nat} (hd : d < A.nV) : ∃ g cap, w.cell? ⟨rb, 1, none⟩ = some (.slice (some ⟨g, 0, none⟩) A.nV cap) ∧ w.cell? ⟨g, d * 5 + 1, none⟩ = some (.int .u64 (A.V d).begin_) ∧ w.cell? ⟨g, d * 5 + 2, none⟩ = some (.int .u64 (A.V d).end_) := by
  obtain ⟨x, h⟩ := h.rfOpen
  obtain ⟨_, c1, _⟩ := RfP.fields h
  obtain ⟨g, cap, e, _, _, h1, h2, _⟩ := RfP.ver h hd
  rw [e] at c1
  exact ⟨g, cap, c1, h1, h2⟩

theorem sweep_cells {X Y : Part} {lp : Option Addr} {lc : Nat} {L : List Nat} {d j : Nat} (h : Has o w0 w (((((Part.rstore rb A rs).sep E).sep (.nums (.slice lp L.length lc) L)).sep X).sep Y)) (hjl : j < L.length) (hd1 : L.getD j 0 = d + 1) (hdl : d < A.nV) :
    ∃ g1b gv cv, lp = some ⟨g1b, 0, none⟩ ∧ w.cell? ⟨g1b, j, none⟩ = some (.int .i64 ((d : Int) + 1)) ∧ w.cell? ⟨rb, 1, none⟩ = some (.slice (some ⟨gv, 0, none⟩) A.nV cv) ∧ w.cell? ⟨gv, d * 5 + 1, none⟩ = some (.int .u64 (A.V d).begin_) ∧ w.cell? ⟨gv, d * 5 + 2, none⟩ = some (.int .u64 (A.V d).end_) := by
  obtain ⟨_, h5, _⟩ := h.left
  obtain ⟨_, h6, _⟩ := h5.left
  obtain ⟨_, h7, _⟩ := h6.right
  obtain ⟨_, _, e1, _, hc1⟩ := nums_row h7
  obtain ⟨rfl, rfl⟩ : lp = _ ∧ lc = _ := by simpa using e1
  obtain ⟨g1b, hp1, x1⟩ := hc1 j hjl
  rw [hd1] at x1
  obtain ⟨_, h8, _⟩ := h6.left
  obtain ⟨_, h9, _⟩ := h8.left
  obtain ⟨gv, cv, y0, y1, y2⟩ := ref_ver h9 hdl
  exact ⟨g1b, gv, cv, hp1, x1, y0, y1, y2⟩

theorem tkA_aok {A : ASt} (hok : AOk A) (h : Chs A ch) {i : Nat} (hi : i < A.nN) {pre vs : List Nat} (e : ch i = pre ++ vs) : AOk (tkA mark A ch i vs).1 := by
  have hl := h.link i hi
  have hf := hl.falls h.down
  rw [e] at hl hf
  have hm := (Linked.tail pre hl).mem
  have hfv := (List.pairwise_append.1 hf).2.1
  have hu := tkA_used (mark := mark) h hi e
  rcases tkA_eq mark A ch i vs with ⟨ht, _⟩ | ⟨s, hs, hlt, ht⟩ | ⟨hs, h0, hc, ht⟩
  · rw [ht]; exact hok
  · rw [ht] at hu ⊢
    exact hok.cutV h hi (pre := pre) (by dsimp only at hu; omega)
  · have h1 := cutV_used (A := A) (v := vs.getD 0 0) (post := vs.drop 1) (hfv.sublist (List.drop_sublist _ _)) fun u hu => hm u (List.mem_of_mem_drop hu)
    rw [ht] at hu ⊢
    rw [List.length_drop] at h1
    exact (hok.cutV h hi (pre := pre) (by omega)).dropV (by dsimp only at hu; omega)

theorem one_ok {t : Tri} (hok : AOk t.1) (hc : Chs t.1 t.2.1) (x : Int) : AOk (one mark t x).1 ∧ Chs (one mark t x).1 (one mark t x).2.1 ∧ (one mark t x).1.used + 3 * (one mark t x).2.2 = t.1.used + 3 * t.2.2 ∧ (one mark t x).1.nV = t.1.nV ∧ (one mark t x).1.nN = t.1.nN := by
  unfold one
  cases hl : chL t.1 t.2.1 x with
  | nil => exact ⟨hok, hc, rfl, rfl, rfl⟩
  | cons u r =>
    unfold chL at hl
    by_cases hN : t.1.isN x = true
    · rw [if_pos hN] at hl
      obtain ⟨j, rfl, hj, ej, _⟩ := isN_head hc hN
      rw [ej] at hl ⊢
      have e : t.2.1 j = [] ++ (u :: r) := hl
      have hu := tkA_used (mark := mark) hc hj e
      refine ⟨tkA_aok hok hc hj e, (tkA_chs hc hj (by simp) e).1, ?_, (tkA_nN _ _ _ _ _).2, (tkA_nN _ _ _ _ _).1⟩
      show (tkA mark t.1 t.2.1 j (u :: r)).1.used + 3 * (t.2.2 + (tkA mark t.1 t.2.1 j (u :: r)).2.2) = _
      omega
    · rw [if_neg hN] at hl; cases hl

theorem fold_ok (l : List Int) {t : Tri} (hok : AOk t.1) (hc : Chs t.1 t.2.1) : AOk (l.foldl (one mark) t).1 ∧ Chs (l.foldl (one mark) t).1 (l.foldl (one mark) t).2.1 ∧ (l.foldl (one mark) t).1.used + 3 * (l.foldl (one mark) t).2.2 = t.1.used + 3 * t.2.2 ∧ (l.foldl (one mark) t).1.nV = t.1.nV ∧ (l.foldl (one mark) t).1.nN = t.1.nN := by
  induction l generalizing t with
  | nil => exact ⟨hok, hc, rfl, rfl, rfl⟩
  | cons x l ih =>
    obtain ⟨a1, a2, a3, a4, a5⟩ := one_ok (mark := mark) hok hc x
    obtain ⟨b1, b2, b3, b4, b5⟩ := ih a1 a2
    exact ⟨b1, b2, b3.trans a3, b4.trans a4, b5.trans a5⟩

theorem one_of {t : Tri} {x : Int} {L : List Nat} (h : chL t.1 t.2.1 x = L) (h0 : L ≠ []) : one mark t x = tkT mark t (x - 1).toNat L := by
  unfold one
  rw [h]
  cases L with
  | nil => exact absurd rfl h0
  | cons u r => rfl

set_option maxHeartbeats 8000000 in
set_option maxRecDepth 100000 in
theorem rsweep_walk (h : Has o w0 w ((Part.rstore rb A rs).sep E)) (hok : AOk A) (hc : Chs A ch) (p : Option Addr) (m c : Nat) (f : Nat → Int) (hE : ∀ o w, Has o w w E → RowAt w (.slice p m c) m (fun k => .int .i64 (f k))) (hm9 : m ≤ 1000000) (hV : A.nV ≤ 1000000) :
    Calls Tryd.prog 21 #[P0 rb, .slice p m c, .int .i64 mark] w fun e w' => e = .returned (.int .i64 ((((List.range m).map f).foldl (one mark) (A, ch, 0)).2.2 : Nat)) ∧ Has o w0 w' ((Part.rstore rb (((List.range m).map f).foldl (one mark) (A, ch, 0)).1 rs).sep E) := by
  have HX := Lib.hid h
  have HOK := Lib.hid hok
  have HC := Lib.hid hc
  have HEE := Lib.hid hE
  obtain ⟨i0, hi0, hz0, hz1, hz2⟩ := info_parts info_u64
  clear h hok hc hE
  go_enter Tryd.func21, Tryd.ntmps21
  go_wp2_with fail
  go_loopg [7, 8] m (fun k gv iv wr => ∃ (i : Nat) (t : Tri), i ≤ m ∧ k = m - i ∧ iv = .int .i64 i ∧ t = ((List.range i).map f).foldl (one mark) (A, ch, 0) ∧ gv = .int .i64 (t.2.2 : Nat) ∧ AOk t.1 ∧ Chs t.1 t.2.1 ∧ t.1.used + 3 * t.2.2 = A.used ∧ t.1.nV = A.nV ∧ Has o w0 wr ((Part.rstore rb t.1 rs).sep E))
  case atStart => exact ⟨0, _, Nat.zero_le _, rfl, rfl, rfl, rfl, HOK.out, HC.out, rfl, rfl, HX.out⟩
  case round =>
    clear HX
    obtain ⟨i, ⟨A1, ch1, gn⟩, hi, hk, rfl, ht, rfl, hok, hc, hu, hv, hX⟩ := hrel
    have HKK := Lib.hid hk
    have HT := Lib.hid ht
    have HO1 := Lib.hid hok
    have HC1 := Lib.hid hc
    have HU1 := Lib.hid hu
    have HV1 := Lib.hid hv
    have HX := Lib.hid hX
    clear hk ht hok hc hu hv hX
    dsimp only
    by_cases hlt : i < m
    · have d1 : decide ((i : Int) < (m : Int)) = true := by simp; omega
      have d1' : decide (i < m) = true := by simp; omega
      have q1 : 0 ≤ (i : Int) ∧ (i : Int) < (m : Int) := by omega
      obtain ⟨_, h1, _⟩ := HX.out.right
      obtain ⟨g, off, hp, cg⟩ := row_cell (HEE.out _ _ h1) rfl (k := i) hlt
      subst hp
      obtain ⟨x, hx⟩ : ∃ x, f i = x := ⟨_, rfl⟩
      rw [hx] at cg
      have HXX := Lib.hid hx
      have hV1 : A1.nV ≤ 1000000 := by have : A1.nV = A.nV := HV1.out; omega
      have HCH := Lib.hid (show Calls Tryd.prog 18 #[P0 rb, .int .i64 x] _ fun e w' => ∃ lv, e = .returned lv ∧ Has o w0 w' (((Part.rstore rb A1 rs).sep E).sep (.nums lv (chL A1 ch1 x))) from by
        obtain ⟨o1, h2, _, _, b1⟩ := HX.out.left
        refine (rchain_any h2 HO1.out HC1.out x hV1).mono ?_
        rintro e w' ⟨lv, rfl, h'⟩
        exact ⟨lv, rfl, Has.pull (b1 _ _ h')⟩)
      clear HX h1 hx
      go_wp2_with fail
      refine HCH.out.mono ?_
      rintro e w4 ⟨lv, rfl, hX⟩
      obtain ⟨_, h7, _⟩ := hX.right
      obtain ⟨lp, lc, rfl, hs1, _⟩ := nums_row h7
      have HX4 := Lib.hid ((hX.beside (Has.nilU _)).beside (Has.nilU _))
      have HLK := Lib.hid (show ∀ d ∈ chL A1 ch1 x, 1 ≤ d ∧ A1.ver (d - 1) = true from fun d hd => by
        unfold chL at hd
        split at hd
        · rename_i hN
          obtain ⟨j, rfl, hj, ej, _⟩ := isN_head HC1.out hN
          rw [ej] at hd
          exact (HC1.out.link j hj).mem d hd
        · simp at hd)
      obtain ⟨L, hL⟩ : ∃ L, chL A1 ch1 x = L := ⟨_, rfl⟩
      rw [hL] at HX4 HLK hs1
      have HLL := Lib.hid hL
      have HL9 := Lib.hid (show L.length ≤ 1000000 from by
        rw [← hL]; unfold chL
        split
        · rename_i hN
          obtain ⟨j, rfl, hj, ej, _⟩ := isN_head HC1.out hN
          rw [ej]; have := chain_len HC1.out hj; omega
        · simp)
      clear hX h7 HCH
      rw [hL]
      clear hL
      go_wp2_with fail
      go_loopg [10, 11, 12] L.length (fun k bv ev jv wx => ∃ j : Nat, j ≤ L.length ∧ k = L.length - j ∧ jv = .int .i64 j ∧ Has o w0 wx (((((Part.rstore rb A1 rs).sep E).sep (.nums (.slice lp L.length lc) L)).sep (.u64s bv ((L.take j).map (bgn A1)))).sep (.u64s ev ((L.take j).map (enn A1)))))
      case atStart => exact ⟨0, Nat.zero_le _, rfl, rfl, by simpa using HX4.out⟩
      case round =>
        clear HX4
        obtain ⟨j, hj, hkj, rfl, hX⟩ := hrel
        have HKJ := Lib.hid hkj
        have HX := Lib.hid hX
        clear hkj hX
        by_cases hjl : j < L.length
        · have g1 : decide ((j : Int) < (L.length : Int)) = true := by simp; omega
          have g1' : decide (j < L.length) = true := by simp; omega
          have q2 : 0 ≤ (j : Int) ∧ (j : Int) < (L.length : Int) := by omega
          obtain ⟨d, hd1, hd2⟩ : ∃ d, L.getD j 0 = d + 1 ∧ A1.ver d = true := by
            have hm := HLK.out (L.getD j 0) (by rw [List.getD_eq_getElem?_getD, List.getElem?_eq_getElem hjl]; exact List.getElem_mem hjl)
            exact ⟨L.getD j 0 - 1, by omega, hm.2⟩
          have hdl := ver_lt hd2
          have HD1 := Lib.hid hd1
          have HSN := Lib.hid (show L.take (j + 1) = L.take j ++ [d + 1] by
            rw [List.take_add_one, List.getElem?_eq_getElem hjl]
            rw [List.getD_eq_getElem?_getD, List.getElem?_eq_getElem hjl] at hd1
            simp at hd1; simp [hd1])
          have hj6 : j ≤ 1000000 := by have := HL9.out; omega
          obtain ⟨g1b, gv, cv, rfl, x1, y0, y1, y2⟩ := sweep_cells HX.out hjl hd1 hdl
          have q5 : 0 ≤ (d : Int) ∧ (d : Int) < (A1.nV : Int) := by omega
          have q6 : A1.nV ≤ 9223372036854775807 := by omega
          have e8 : IntKind.i64.wrap (d : Int) = (d : Int) := by unfold IntKind.wrap; simp [IntKind.bits, IntKind.signed]; omega
          obtain ⟨_, h5, _⟩ := HX.out.left
          obtain ⟨_, h10, _⟩ := h5.right
          obtain ⟨pb, cb, rfl, _⟩ := u64_ints h10
          have hlt1 : (List.map (bgn A1) (L.take j)).length = j := by simp; omega
          have hlt2 : (List.map (enn A1) (L.take j)).length = j := by simp; omega
          obtain ⟨_, h11, _⟩ := HX.out.right
          obtain ⟨pe, ce, rfl, _⟩ := u64_ints h11
          have HROWB := Lib.hid (show wr.drew.ownsRow 0 56 1 (.slice pb (List.map (bgn A1) (L.take j)).length cb) (List.map (bgn A1) (L.take j)).length ((List.map (bgn A1) (L.take j)).map (Value.int .u64)) from by
            obtain ⟨fp, ⟨hr, _⟩, _⟩ := (h10.drewN 1); exact hr)
          rw [hlt1] at HROWB
          rw [hlt1, hlt2] at HX
          have HXB := Lib.hid (show ∀ w5 v' ob, Appended (wr.drew.alloc ob) w5 56 1 (.slice pb j cb) v' (j + 1) ((List.map (bgn A1) (L.take j)).map (Value.int .u64) ++ [.int .u64 (A1.V d).begin_]) → Has o w0 w5 (((((Part.rstore rb A1 rs).sep E).sep (.nums (.slice (some ⟨g1b, 0, none⟩) L.length lc) L)).sep (.u64s v' ((L.take (j + 1)).map (bgn A1)))).sep (.u64s (.slice pe j ce) ((L.take j).map (enn A1)))) from fun w5 v' ob happ => by
            obtain ⟨o9, h9, _, _, b9⟩ := (HX.out.drewN 1).left
            rw [HSN.out, List.map_append]
            refine b9 _ _ (u64_append ob h9 ?_)
            rw [hlt1]; exact happ)
          clear h5 h10 h11 hd1 hd2 HX
          rw [hlt1, hlt2]
          go_wp2_with fail
          go_region_law
            (refine step_append_new rfl (.tmp 32) (.tmp 45) 31 rfl 56 i0 (.int .u64 0) 1 8 Tryd.underlying31 hi0 hz0 hz1 hz2 rfl (by decide) (.slice pb j cb) j ((List.map (bgn A1) (L.take j)).map (Value.int .u64)) rfl (HROWB.out.alloc _) ⟨_, 0, none⟩ 1 1 [.int .u64 (A1.V d).begin_] rfl rfl (cell_one _ _ _ _ (by simp)) (by simp [Value.oneCell']) (by simp only [maxLen]; omega) (by omega) ?_
             intro v' w5 happ
             have HX5 := Lib.hid (HXB.out _ _ _ happ)
             clear happ)
          all_goals (
            obtain ⟨g1c, gv2, cv2, eg, x1, y0, y1, y2⟩ := sweep_cells HX5.out hjl HD1.out hdl
            obtain rfl : g1b = g1c := by simpa using eg
            obtain ⟨_, h11, _⟩ := HX5.out.right
            have HROWE := Lib.hid (show w5.drew.ownsRow 0 56 1 (.slice pe j ce) (List.map (enn A1) (L.take j)).length ((List.map (enn A1) (L.take j)).map (Value.int .u64)) from by
              obtain ⟨fp, ⟨hr, _⟩, _⟩ := (h11.drewN 1); exact hr)
            rw [hlt2] at HROWE
            have HXE := Lib.hid (show ∀ w6 v6 ob, Appended (w5.drew.alloc ob) w6 56 1 (.slice pe j ce) v6 (j + 1) ((List.map (enn A1) (L.take j)).map (Value.int .u64) ++ [.int .u64 (A1.V d).end_]) → Has o w0 w6 (((((Part.rstore rb A1 rs).sep E).sep (.nums (.slice (some ⟨g1b, 0, none⟩) L.length lc) L)).sep (.u64s v' ((L.take (j + 1)).map (bgn A1)))).sep (.u64s v6 ((L.take (j + 1)).map (enn A1)))) from fun w6 v6 ob happ => by
              rw [HSN.out, List.map_append (f := enn A1)]
              refine u64_append ob (by have := HX5.out.drewN 1; rw [HSN.out] at this; exact this) ?_
              rw [hlt2]; exact happ)
            clear h11 eg HX5 HXB
            go_wp2_with fail
            go_region_law
              (refine step_append_new rfl (.tmp 47) (.tmp 60) 31 rfl 56 i0 (.int .u64 0) 1 8 Tryd.underlying31 hi0 hz0 hz1 hz2 rfl (by decide) (.slice pe j ce) j ((List.map (enn A1) (L.take j)).map (Value.int .u64)) rfl (HROWE.out.alloc _) ⟨_, 0, none⟩ 1 1 [.int .u64 (A1.V d).end_] rfl rfl (cell_one _ _ _ _ (by simp)) (by simp [Value.oneCell']) (by simp only [maxLen]; omega) (by omega) ?_
               intro v6 w6 happ
               have HX6 := Lib.hid (HXE.out _ _ _ happ)
               clear happ)
            all_goals (
              go_wp2_with fail
              go_roundg (L.length - (j + 1))
              case measure => rw [HKJ.out]; omega
              case rel => exact ⟨j + 1, by omega, rfl, by go_num, HX6.out⟩))
        · have g1 : decide ((j : Int) < (L.length : Int)) = false := by simp; omega
          have g1' : decide (j < L.length) = false := by simp; omega
          obtain rfl : j = L.length := by omega
          rw [List.take_length] at HX
          obtain ⟨_, h10, _⟩ := HX.out.left
          obtain ⟨_, h11, _⟩ := h10.right
          obtain ⟨_, h12, _⟩ := HX.out.right
          have hst : ∀ d ∈ L, 0 ≤ bgn A1 d ∧ bgn A1 d < 18446744073709551616 ∧ 0 ≤ enn A1 d ∧ enn A1 d < 18446744073709551616 := fun d hd => by
            have hv := (HLK.out d hd).2
            have h1 := HO1.out.word _ _ (some_ofV hv).1
            have h2 := HO1.out.word _ _ (some_ofV hv).2.1
            exact ⟨h1.1, h1.2, h2.1, h2.2⟩
          obtain ⟨pb, cb, rfl, rb⟩ := u64s_row h11 fun y hy => by
            obtain ⟨d, hd, rfl⟩ := List.mem_map.1 hy
            exact ⟨(hst d hd).1, (hst d hd).2.1⟩
          obtain ⟨pe, ce, rfl, re⟩ := u64s_row h12 fun y hy => by
            obtain ⟨d, hd, rfl⟩ := List.mem_map.1 hy
            exact ⟨(hst d hd).2.2.1, (hst d hd).2.2.2⟩
          rw [List.length_map] at rb re
          simp only [List.length_map]
          obtain ⟨K, hK⟩ : ∃ K, stayL A1 mark L = K := ⟨_, rfl⟩
          have HK := Lib.hid hK
          have hKL : K ≤ L.length := by rw [← hK]; exact stayL_le A1 mark L
          have HKP := Lib.hid (show Calls Tryd.prog 16 #[.slice pb L.length cb, .slice pe L.length ce, .int .i64 mark] wr fun e w' => e = .returned (.int .i64 (K : Nat)) ∧ w' = wr from by
            rw [← hK, stay_map]
            exact rkeep_walk wr pb pe L.length L.length cb ce _ _ mark rb re L.length (by simp))
          have HXN := Lib.hid HX.out.fst.fst
          have hgn : gn ≤ 65536 := by have h1 := HU1.out; have h2 := HOK.out.fit; have h3 := HOK.out.big; omega
          have hL6 : L.length ≤ 1000000 := HL9.out
          clear h10 h11 h12 hst rb re hK HX
          go_wp2_with fail
          refine HKP.out.mono ?_
          rintro e W5 ⟨rfl, rfl⟩
          have HSUC := Lib.hid (show ((List.range (i + 1)).map f).foldl (one mark) (A, ch, 0) = one mark (A1, ch1, gn) x by
            rw [List.range_succ, List.map_append, List.foldl_append, ← HT.out, ← HXX.out]; rfl)
          clear HKP
          by_cases hKl : K = L.length
          · have f1 : decide ((K : Int) = (L.length : Int)) = true := by simp; omega
            have f1' : ((K : Int) == (L.length : Int)) = true := by simp; omega
            have HON := Lib.hid (show one mark (A1, ch1, gn) x = (A1, ch1, gn) from by
              by_cases h0 : L = []
              · unfold one; rw [show chL (A1, ch1, gn).1 (A1, ch1, gn).2.1 x = [] from HLL.out.trans h0]
              · rw [one_of (L := L) HLL.out h0]
                unfold tkT
                rcases tkA_eq mark A1 ch1 (x - 1).toNat L with ⟨ht, _⟩ | ⟨s, hs, hlt, ht⟩ | ⟨hs, h0, _, ht⟩
                · show ((tkA mark A1 ch1 (x - 1).toNat L).1, (tkA mark A1 ch1 (x - 1).toNat L).2.1, gn + (tkA mark A1 ch1 (x - 1).toNat L).2.2) = _
                  rw [ht]; rfl
                · have := HK.out; omega
                · have := HK.out; omega)
            clear hKL
            go_wp2_with fail
            go_roundg (m - (i + 1))
            case measure => rw [HKK.out]; omega
            case rel => exact ⟨i + 1, (A1, ch1, gn), by omega, rfl, by go_num, by rw [HSUC.out, HON.out], rfl, HO1.out, HC1.out, HU1.out, HV1.out, HXN.out.fst⟩
          · have f1 : decide ((K : Int) = (L.length : Int)) = false := by simp; omega
            have f1' : ((K : Int) == (L.length : Int)) = false := by simp; omega
            obtain ⟨j, hxj, hj, hcj⟩ : ∃ j : Nat, x = (j : Int) + 1 ∧ j < A1.nN ∧ ch1 j = L := by
              have h1 : chL A1 ch1 x = L := HLL.out
              unfold chL at h1
              by_cases hN : A1.isN x = true
              · rw [if_pos hN] at h1
                obtain ⟨j, hxj, hj, ej, _⟩ := isN_head HC1.out hN
                exact ⟨j, hxj, hj, by rw [← ej]; exact h1⟩
              · rw [if_neg hN] at h1
                rw [← h1] at hKl hKL
                exact absurd (Nat.le_zero.1 hKL) hKl
            have hL0 : L ≠ [] := fun e => by rw [e] at hKl hKL; exact hKl (Nat.le_zero.1 hKL)
            have hlk : Linked A1 L := by rw [← hcj]; exact HC1.out.link j hj
            have hfal : L.Pairwise (· > ·) := hlk.falls HC1.out.down
            have HHD := Lib.hid (show A1.at_ (.head j) = some (hd L) from by rw [(some_of hj).1, HC1.out.head j hj, hcj])
            have hone := one_of (mark := mark) (t := (A1, ch1, gn)) (x := x) (L := L) HLL.out hL0
            rw [show (x - 1).toNat = j by omega] at hone
            have HOK1 := Lib.hid (one_ok (mark := mark) (t := (A1, ch1, gn)) HO1.out HC1.out x)
            have hcutg : ∀ s, s < L.length → ∃ d, L.getD s 0 = d + 1 ∧ d < A1.nV ∧ A1.ver d = true ∧ (∀ u ∈ L.drop (s + 1), 1 ≤ u ∧ u ≠ d + 1) ∧ (A1.cutV (d + 1) (L.drop (s + 1))).used ≤ A1.used ∧
                ∀ (W : World), Has o w0 W (((Part.rstore rb A1 rs).sep E).sep (.nums (.slice lp L.length lc) L)) → Calls Tryd.prog 43 #[P0 rb, .int .i64 ((d : Int) + 1)] W fun e w' => e = .returned (.tuple #[.int .i64 ((L.drop (s + 1)).length : Nat), .int .i64 0]) ∧ Has o w0 w' (((Part.rstore rb (A1.cutV (d + 1) (L.drop (s + 1))) rs).sep E).sep (.nums (.slice lp L.length lc) L)) := fun s hs => by
              obtain ⟨d, nx, hd1, hd2, hd3, hd4, hd5⟩ := hlk.here HC1.out.down s hs
              have hpw := hfal.sublist (List.drop_sublist (s + 1) L)
              have hmm : ∀ u ∈ L.drop (s + 1), 1 ≤ u ∧ A1.ver (u - 1) = true := fun u hu => hlk.mem u (List.mem_of_mem_drop hu)
              refine ⟨d, hd1, ver_lt hd2, hd2, fun u hu => ⟨(hmm u hu).1, fun eq => ?_⟩, ?_, fun W hW => ?_⟩
              · have hf2 := hfal
                rw [split_at L s hs, hd1] at hf2
                have := (List.pairwise_cons.1 (List.pairwise_append.1 hf2).2.1).1 u hu
                omega
              · have := cutV_used (A := A1) (v := d + 1) hpw hmm; omega
              · obtain ⟨o8, h8, _, _, b8⟩ := hW.left
                obtain ⟨o9, h9, _, _, b9⟩ := h8.left
                refine (rcut_at h9 HO1.out d nx hd3 (by omega) (by rw [← hd5]; exact fun u hu => ⟨(hmm u hu).1, by rw [ASt.ver_set]; exact (hmm u hu).2⟩) (by rw [← hd5]; exact hpw) (by rw [← hd5, List.length_drop]; omega)).mono ?_
                rintro e w' ⟨rfl, h'⟩
                rw [← hd5] at h' ⊢
                exact ⟨rfl, b8 _ _ (b9 _ _ h')⟩
            have hcell : ∀ (W : World) (B' : Part) s d, s < L.length → L.getD s 0 = d + 1 → Has o w0 W (B'.sep (.nums (.slice lp L.length lc) L)) → ∃ g1b, lp = some ⟨g1b, 0, none⟩ ∧ W.cell? ⟨g1b, s, none⟩ = some (.int .i64 ((d : Int) + 1)) := fun W B' s d hs hd hW => by
              obtain ⟨_, h7, _⟩ := hW.right
              obtain ⟨_, _, e1, _, hc1⟩ := nums_row h7
              obtain ⟨rfl, rfl⟩ : lp = _ ∧ lc = _ := by simpa using e1
              obtain ⟨g1b, hp1, x1⟩ := hc1 s hs
              rw [hd] at x1
              exact ⟨g1b, hp1, x1⟩
            by_cases hK0 : 0 < K
            · obtain ⟨s, rfl⟩ : ∃ s, K = s + 1 := ⟨K - 1, by omega⟩
              obtain ⟨d, hd1, hdl, hdv, hdm, hdu, hcut⟩ := hcutg s (by omega)
              obtain ⟨g1b, rfl, x1⟩ := hcell _ _ s d (by omega) hd1 HXN.out
              have HC3 := Lib.hid (hcut _ HXN.out)
              have HON := Lib.hid (show one mark (A1, ch1, gn) x = (A1.cutV (d + 1) (L.drop (s + 1)), updL ch1 j ((ch1 j).take ((ch1 j).length - (L.length - (s + 1)))), gn + (L.length - (s + 1))) from by
                rw [hone]
                unfold tkT
                rcases tkA_eq mark A1 ch1 j L with ⟨ht, hq⟩ | ⟨s', hs', hlt', ht⟩ | ⟨hs', h0, _, ht⟩
                · have := HK.out; rcases hq with hq | hq
                  · omega
                  · omega
                · have := HK.out
                  obtain rfl : s' = s := by omega
                  show ((tkA mark A1 ch1 j L).1, (tkA mark A1 ch1 j L).2.1, gn + (tkA mark A1 ch1 j L).2.2) = _
                  rw [ht, hd1]
                · have := HK.out; omega)
              have hcast : ((s + 1 : Nat) : Int) = (s : Int) + 1 := rfl
              have q7 : 0 ≤ (s : Int) ∧ (s : Int) < (L.length : Int) := by omega
              have q8 : decide ((s : Int) + 1 > 0) = true := by simp only [decide_eq_true_eq]; omega
              have e7 : IntKind.i64.wrap ((gn : Int) + (L.length : Int)) = (gn : Int) + (L.length : Int) := by unfold IntKind.wrap; simp [IntKind.bits, IntKind.signed]; omega
              have e8 : IntKind.i64.wrap ((gn : Int) + (L.length : Int) - ((s : Int) + 1)) = ((gn + (L.length - (s + 1)) : Nat) : Int) := by unfold IntKind.wrap; simp [IntKind.bits, IntKind.signed]; omega
              have e9 : IntKind.i64.wrap (s : Int) = (s : Int) := by unfold IntKind.wrap; simp [IntKind.bits, IntKind.signed]; omega
              rw [hcast] at f1 f1' ⊢
              clear hcutg hcell hcut hone hd1 hdm hxj hcj hlk hfal hL0 hKl hKL hK0
              go_wp2_with fail
              refine HC3.out.mono ?_
              rintro e W6 ⟨rfl, hX⟩
              have HX6 := Lib.hid hX
              clear hX HC3
              go_wp2_with fail
              go_roundg (m - (i + 1))
              case measure => rw [HKK.out]; omega
              case rel => exact ⟨i + 1, one mark (A1, ch1, gn) x, by omega, rfl, by go_num, by rw [HSUC.out], by rw [HON.out]; first | rfl | simp, HOK1.out.1, HOK1.out.2.1, by rw [HOK1.out.2.2.1]; exact HU1.out, by rw [HOK1.out.2.2.2.1]; exact HV1.out, by rw [HON.out]; exact HX6.out.fst⟩
            · obtain rfl : K = 0 := by omega
              obtain ⟨d, hd1, hdl, hdv, hdm, hdu, hcut⟩ := hcutg 0 (by omega)
              obtain ⟨g1b, rfl, x1⟩ := hcell _ _ 0 d (by omega) hd1 HXN.out
              have HC3 := Lib.hid (hcut _ HXN.out)
              have HON := Lib.hid (show one mark (A1, ch1, gn) x = ((A1.cutV (d + 1) (L.drop 1)).dropV j (d + 1) 0, updL ch1 j [], gn + L.length) from by
                rw [hone]
                unfold tkT
                rcases tkA_eq mark A1 ch1 j L with ⟨ht, hq⟩ | ⟨s', hs', hlt', ht⟩ | ⟨hs', h0, _, ht⟩
                · have := HK.out; rcases hq with hq | hq
                  · omega
                  · exact absurd hcj hq.2
                · have := HK.out; omega
                · show ((tkA mark A1 ch1 j L).1, (tkA mark A1 ch1 j L).2.1, gn + (tkA mark A1 ch1 j L).2.2) = _
                  rw [ht, hd1])
              have hhd : hd L = (d : Int) + 1 := by
                cases L with
                | nil => exact absurd rfl hL0
                | cons v l => show (v : Int) = _; rw [show v = d + 1 from hd1]; rfl
              have HH2 := Lib.hid (show (A1.cutV (d + 1) (L.drop (0 + 1))).at_ (.head j) = some ((d : Int) + 1) from by
                have h1 := HHD.out
                unfold ASt.at_ at h1 ⊢
                rw [(cutV_N A1 _ _).1, (cutV_N A1 _ _).2.1, ← hhd]
                exact h1)
              have HL2 := Lib.hid (show (A1.cutV (d + 1) (L.drop (0 + 1))).at_ (.next d) = some 0 from by
                have hv2 : (A1.cutV (d + 1) (L.drop (0 + 1))).ver d = true := by
                  rw [cutV_ver A1 (fun u hu => (hdm u hu).1), hdv]
                  simp only [Bool.true_and, decide_eq_true_eq]
                  exact fun hm => (hdm _ hm).2 rfl
                rw [(some_ofV hv2).2.2, cutV_V A1 (fun u hu => (hdm u hu).1)]
                simp)
              have HA2 := Lib.hid (HO1.out.cutV HC1.out hj (pre := []) hdu)
              have HXJ := Lib.hid hxj
              have q7 : 0 ≤ (0 : Int) ∧ (0 : Int) < (L.length : Int) := by omega
              have q9 : (0 : Int) < (L.length : Int) := by omega
              have e7 : IntKind.i64.wrap ((gn : Int) + (L.length : Int)) = (gn : Int) + (L.length : Int) := by unfold IntKind.wrap; simp [IntKind.bits, IntKind.signed]; omega
              have hcast : ((0 : Nat) : Int) = 0 := rfl
              rw [hcast] at f1 f1' ⊢
              clear hcutg hcell hcut hone hd1 hdm hxj hcj hlk hfal hL0 hKl hKL hK0 hhd
              go_wp2_with fail
              refine HC3.out.mono ?_
              rintro e W6 ⟨rfl, hX⟩
              have HX6 := Lib.hid hX
              obtain ⟨_, h8, _⟩ := hX.left
              obtain ⟨_, h9, _⟩ := h8.right
              obtain ⟨g6, off6, hp6, cg6⟩ := row_cell (HEE.out _ _ h9) rfl (k := i) hlt
              obtain ⟨rfl, rfl⟩ : g = g6 ∧ off = off6 := by simpa using hp6
              rw [HXX.out] at cg6
              have HDR := Lib.hid (show Calls Tryd.prog 44 #[P0 rb, .int .i64 x] W6 fun e w' => e = .returned (.int .i64 0) ∧ Has o w0 w' (((Part.rstore rb ((A1.cutV (d + 1) (L.drop 1)).dropV j (d + 1) 0) rs).sep E).sep (.nums (.slice (some ⟨g1b, 0, none⟩) L.length lc) L)) from by
                obtain ⟨o8, h8, _, _, b8⟩ := HX6.out.left
                obtain ⟨o9, h9, _, _, b9⟩ := h8.left
                rw [HXJ.out]
                refine (rdrop_at h9 HA2.out j d 0 HH2.out HL2.out).mono ?_
                rintro e w' ⟨rfl, h'⟩
                exact ⟨rfl, b8 _ _ (b9 _ _ h')⟩)
              clear hX h8 h9 HC3 x1
              go_wp2_with fail
              refine HDR.out.mono ?_
              rintro e W7 ⟨rfl, hX⟩
              have HX7 := Lib.hid hX
              clear hX HDR
              go_wp2_with fail
              go_roundg (m - (i + 1))
              case measure => rw [HKK.out]; omega
              case rel => exact ⟨i + 1, one mark (A1, ch1, gn) x, by omega, rfl, by go_num, by rw [HSUC.out], by rw [HON.out]; simp, HOK1.out.1, HOK1.out.2.1, by rw [HOK1.out.2.2.1]; exact HU1.out, by rw [HOK1.out.2.2.2.1]; exact HV1.out, by rw [HON.out]; exact HX7.out.fst⟩
    · have d1 : decide ((i : Int) < (m : Int)) = false := by simp; omega
      have d1' : decide (i < m) = false := by simp; omega
      obtain rfl : i = m := by omega
      have HTT := Lib.hid HT.out.symm
      go_wp2_with fail
      go_ret
      rw [HTT.out]
      exact ⟨rfl, HX.out⟩
end Go.Proofs.YtbodobdllchmgaaDoor
namespace Go.Proofs.YtbodobdllchmgaaDoor
open Go Go.RowKit
set_option linter.unusedVariables false

variable {A A' : ASt} {mark : Int} {ch : Nat → List Nat}

/-- Whoever stands behind a version that is begun at the mark is ended then. -/
def OrdM (A : ASt) (mark : Int) (l : List Nat) : Prop := l.Pairwise fun x y => bgn A x ≤ mark → enn A y ≤ mark

theorem pastF_le {w m : Int} (h : pastF w m = true) : w ≤ m := by unfold pastF at h; simp at h; exact h.2

theorem keepF_split (b e : Nat → Int) (mark : Int) (i k : Nat) : keepF b e mark i k = i + k ∨ ∃ j, i ≤ j ∧ j < i + k ∧ pastF (b j) mark = true ∧ ((pastF (e j) mark = true ∧ keepF b e mark i k = j) ∨ keepF b e mark i k = j + 1) := by
  induction k generalizing i with
  | zero => exact .inl rfl
  | succ k ih =>
    unfold keepF
    by_cases h : pastF (b i) mark = true
    · rw [if_pos h]
      refine .inr ⟨i, Nat.le_refl _, by omega, h, ?_⟩
      by_cases h2 : pastF (e i) mark = true
      · rw [if_pos h2]; exact .inl ⟨h2, rfl⟩
      · rw [if_neg h2]; exact .inr rfl
    · rw [if_neg h]
      rcases ih (i + 1) with h1 | ⟨j, h1, h2, h3⟩
      · left; omega
      · exact .inr ⟨j, by omega, by omega, h3⟩

theorem gone_unseen {l : List Nat} (h : OrdM A mark l) : ∀ u ∈ l.drop (stayL A mark l), enn A u ≤ mark := by
  intro u hu
  obtain ⟨k, hk, rfl⟩ := List.mem_iff_getElem.1 hu
  rw [List.length_drop] at hk
  rw [List.getElem_drop]
  have hlt : stayL A mark l + k < l.length := by omega
  have hg : ∀ j (hj : j < l.length), l.getD j 0 = l[j] := fun j hj => by rw [List.getD_eq_getElem?_getD, List.getElem?_eq_getElem hj]; rfl
  rcases keepF_split (fun k => bgn A (l.getD k 0)) (fun k => enn A (l.getD k 0)) mark 0 l.length with h1 | ⟨j, _, h2, h3, h4⟩
  · have : stayL A mark l = 0 + l.length := h1
    omega
  · have h3' := pastF_le h3
    simp only [hg j (by omega)] at h3' h4
    rcases h4 with ⟨h5, h6⟩ | h6
    · have h7 : stayL A mark l = j := by unfold stayL; simpa using h6
      by_cases hk0 : k = 0
      · subst hk0
        have : stayL A mark l + 0 = j := by omega
        simp only [this]
        exact pastF_le h5
      · exact (List.pairwise_iff_getElem.1 h) j (stayL A mark l + k) (by omega) hlt (by omega) h3'
    · have h7 : stayL A mark l = j + 1 := by unfold stayL; simpa using h6
      exact (List.pairwise_iff_getElem.1 h) j (stayL A mark l + k) (by omega) hlt (by omega) h3'

theorem sees_drop {at_ : Int} (l r : List Nat) (h : ∀ u ∈ r, enn A u ≤ mark) (ha : mark ≤ at_) : seesF A at_ (l ++ r) = seesF A at_ l := by
  induction l with
  | nil =>
    induction r with
    | nil => rfl
    | cons u r ih =>
      have hu := h u (by simp)
      show (if seenB at_ (bgn A u) (enn A u) = true then u else seesF A at_ r) = 0
      have : seenB at_ (bgn A u) (enn A u) = false := by unfold seenB; simp; omega
      rw [this, if_neg (by simp)]
      exact ih fun v hv => h v (by simp [hv])
  | cons v l ih =>
    show (if _ then v else seesF A at_ (l ++ r)) = (if _ then v else seesF A at_ l)
    rw [ih]
theorem sees_same {at_ : Int} {l : List Nat} (h : ∀ v, bgn A' v = bgn A v ∧ enn A' v = enn A v) : seesF A' at_ l = seesF A at_ l := by
  induction l with
  | nil => rfl
  | cons v l ih =>
    show (if seenB at_ (bgn A' v) (enn A' v) = true then v else seesF A' at_ l) = (if seenB at_ (bgn A v) (enn A v) = true then v else seesF A at_ l)
    rw [ih, (h v).1, (h v).2]
theorem sees_on {at_ : Int} {l : List Nat} (h : ∀ v ∈ l, bgn A' v = bgn A v ∧ enn A' v = enn A v) : seesF A' at_ l = seesF A at_ l := by
  induction l with
  | nil => rfl
  | cons v l ih =>
    obtain ⟨h1, h2⟩ := h v (by simp)
    show (if seenB at_ (bgn A' v) (enn A' v) = true then v else seesF A' at_ l) = (if seenB at_ (bgn A v) (enn A v) = true then v else seesF A at_ l)
    rw [ih fun u hu => h u (by simp [hu]), h1, h2]
theorem OrdM.same {l : List Nat} (ho : OrdM A mark l) (h : ∀ v ∈ l, bgn A' v = bgn A v ∧ enn A' v = enn A v) : OrdM A' mark l := by
  refine List.Pairwise.imp_of_mem (fun {x y} hx hy hxy => ?_) ho
  rw [(h x hx).1, (h y hy).2]; exact hxy
theorem OrdM.sub {l l' : List Nat} (ho : OrdM A mark l) (h : l'.Sublist l) : OrdM A mark l' := List.Pairwise.sublist h ho
theorem Timely.same {l : List Nat} (ht : Timely A l) (h : ∀ v ∈ l, bgn A' v = bgn A v ∧ enn A' v = enn A v) : Timely A' l := fun v hv => by
  rw [(h v hv).1, (h v hv).2]; exact ht v hv

theorem tkA_words {i : Nat} (h : Chs A ch) (hi : i < A.nN) {pre vs : List Nat} (hv : vs ≠ []) (e : ch i = pre ++ vs) (v : Nat) : bgn (tkA mark A ch i vs).1 v = bgn A v ∧ enn (tkA mark A ch i vs).1 v = enn A v := by
  obtain ⟨_, _, h3, _, _⟩ := tkA_chs (mark := mark) h hi hv e
  exact ⟨by have := congrArg AVer.begin_ (h3 (v - 1)); exact this, by have := congrArg AVer.end_ (h3 (v - 1)); exact this⟩

/-- What is taken away is not seen at the mark or later. -/
theorem tkA_sees {i : Nat} (h : Chs A ch) (hi : i < A.nN) {pre vs : List Nat} (hv : vs ≠ []) (e : ch i = pre ++ vs) (ho : OrdM A mark (ch i)) (j : Nat) {at_ : Int} (ha : mark ≤ at_) : seesF (tkA mark A ch i vs).1 at_ ((tkA mark A ch i vs).2.1 j) = seesF A at_ (ch j) := by
  rw [sees_same (tkA_words (mark := mark) h hi hv e)]
  obtain ⟨_, _, _, h4, h5⟩ := tkA_chs (mark := mark) h hi hv e
  by_cases ej : j = i
  · subst ej
    rw [h5]
    split
    · rfl
    · have hs : ch j = (pre ++ vs.take (stayL A mark vs)) ++ vs.drop (stayL A mark vs) := by rw [e, List.append_assoc, List.take_append_drop]
      rw [hs, sees_drop _ _ (gone_unseen (ho.sub (by rw [e]; exact List.sublist_append_right _ _))) ha]
  · rw [h4 j ej]

theorem keepF_again (b e : Nat → Int) (mark : Int) (i k r : Nat) (h : keepF b e mark i k = i + r) (hr : r ≤ k) : keepF b e mark i r = i + r := by
  induction k generalizing i r with
  | zero =>
    obtain rfl : r = 0 := by omega
    rfl
  | succ k ih =>
    unfold keepF at h
    cases r with
    | zero => rfl
    | succ r =>
      unfold keepF
      by_cases h1 : pastF (b i) mark = true
      · rw [if_pos h1] at h ⊢
        by_cases h2 : pastF (e i) mark = true
        · rw [if_pos h2] at h; omega
        · rw [if_neg h2] at h ⊢; omega
      · rw [if_neg h1] at h ⊢
        have := ih (i + 1) r (by omega) (by omega)
        omega
/-- Of what stays all stays again. -/
theorem stay_again (A : ASt) (mark : Int) (l : List Nat) : stayL A mark (l.take (stayL A mark l)) = (l.take (stayL A mark l)).length := by
  have hle := stayL_le A mark l
  have hlen : (l.take (stayL A mark l)).length = stayL A mark l := by rw [List.length_take]; omega
  have h := keepF_again (fun k => bgn A (l.getD k 0)) (fun k => enn A (l.getD k 0)) mark 0 l.length (stayL A mark l) (by unfold stayL; omega) hle
  unfold stayL at hlen ⊢
  rw [hlen]
  have hc : keepF (fun k => bgn A ((l.take (stayL A mark l)).getD k 0)) (fun k => enn A ((l.take (stayL A mark l)).getD k 0)) mark 0 (stayL A mark l) = keepF (fun k => bgn A (l.getD k 0)) (fun k => enn A (l.getD k 0)) mark 0 (stayL A mark l) := by
    refine keepF_congr fun j _ hj => ?_
    have : (l.take (stayL A mark l)).getD j 0 = l.getD j 0 := by
      rw [List.getD_eq_getElem?_getD, List.getD_eq_getElem?_getD, List.getElem?_take_of_lt (by omega)]
    rw [this]; exact ⟨rfl, rfl⟩
  unfold stayL at hc h
  rw [hc, h]; omega
theorem stayL_same {l : List Nat} (h : ∀ v, bgn A' v = bgn A v ∧ enn A' v = enn A v) : stayL A' mark l = stayL A mark l := by
  unfold stayL
  exact keepF_congr fun j _ _ => ⟨(h _).1, (h _).2⟩

def Settled (mark : Int) (t : Tri) (j : Nat) : Prop := stayL t.1 mark (t.2.1 j) = (t.2.1 j).length

theorem one_words {t : Tri} (h : Chs t.1 t.2.1) (x : Int) (v : Nat) : bgn (one mark t x).1 v = bgn t.1 v ∧ enn (one mark t x).1 v = enn t.1 v := by
  unfold one
  cases hl : chL t.1 t.2.1 x with
  | nil => exact ⟨rfl, rfl⟩
  | cons u r =>
    unfold chL at hl
    by_cases hN : t.1.isN x = true
    · rw [if_pos hN] at hl
      obtain ⟨j, rfl, hj, ej, _⟩ := isN_head h hN
      rw [ej] at hl ⊢
      exact tkA_words (mark := mark) h hj (pre := []) (by simp) hl v
    · rw [if_neg hN] at hl; cases hl

/-- One node: its chain is settled then, all others stand. -/
theorem one_chain {t : Tri} (h : Chs t.1 t.2.1) (x : Int) (j : Nat) (hj : j < t.1.nN) : (x ≠ (j : Int) + 1 → (one mark t x).2.1 j = t.2.1 j) ∧ (x = (j : Int) + 1 → Settled mark (one mark t x) j) := by
  refine ⟨fun hx => ?_, fun hx => ?_⟩
  · unfold one
    cases hl : chL t.1 t.2.1 x with
    | nil => rfl
    | cons u r =>
      unfold chL at hl
      by_cases hN : t.1.isN x = true
      · rw [if_pos hN] at hl
        obtain ⟨k, rfl, hk, ek, _⟩ := isN_head h hN
        rw [ek] at hl ⊢
        obtain ⟨_, _, _, h4, _⟩ := tkA_chs (mark := mark) h hk (pre := []) (vs := u :: r) (by simp) hl
        exact h4 j (by omega)
      · rw [if_neg hN] at hl; cases hl
  · subst hx
    have hN : t.1.isN ((j : Int) + 1) = true := is_node hj
    have e1 : ((j : Int) + 1 - 1).toNat = j := by omega
    have hl : chL t.1 t.2.1 ((j : Int) + 1) = t.2.1 j := by unfold chL; rw [if_pos hN, e1]
    unfold Settled
    rw [stayL_same (one_words (mark := mark) h _)]
    unfold one
    rw [hl]
    cases hc : t.2.1 j with
    | nil => show stayL t.1 mark (t.2.1 j) = (t.2.1 j).length; rw [hc]; rfl
    | cons u r =>
      dsimp only
      rw [e1]
      obtain ⟨_, _, _, _, h5⟩ := tkA_chs (mark := mark) h hj (pre := []) (vs := u :: r) (by simp) hc
      show stayL t.1 mark ((tkA mark t.1 t.2.1 j (u :: r)).2.1 j) = ((tkA mark t.1 t.2.1 j (u :: r)).2.1 j).length
      rw [h5, if_neg (fun hh => hh.2 hc), List.nil_append]
      exact stay_again t.1 mark (u :: r)

theorem fold_settled (l : List Int) {t : Tri} (hok : AOk t.1) (h : Chs t.1 t.2.1) (j : Nat) (hj : j < t.1.nN) (hs : Settled mark t j ∨ (j : Int) + 1 ∈ l) : Settled mark (l.foldl (one mark) t) j := by
  induction l generalizing t with
  | nil => exact hs.resolve_right (by simp)
  | cons x l ih =>
    obtain ⟨a1, a2, _, _, a5⟩ := one_ok (mark := mark) hok h x
    obtain ⟨c1, c2⟩ := one_chain (mark := mark) h x j hj
    refine ih a1 a2 (by rw [a5]; exact hj) ?_
    by_cases hx : x = (j : Int) + 1
    · exact .inl (c2 hx)
    · rcases hs with hs | hs
      · left
        unfold Settled at hs ⊢
        rw [stayL_same (one_words (mark := mark) h x), c1 hx]; exact hs
      · right
        exact (List.mem_cons.1 hs).resolve_left fun e => hx e.symm
theorem one_again {t : Tri} (h : Chs t.1 t.2.1) (hs : ∀ j, j < t.1.nN → Settled mark t j) (x : Int) : one mark t x = t := by
  unfold one
  cases hl : chL t.1 t.2.1 x with
  | nil => rfl
  | cons u r =>
    unfold chL at hl
    by_cases hN : t.1.isN x = true
    · rw [if_pos hN] at hl
      obtain ⟨k, rfl, hk, ek, _⟩ := isN_head h hN
      rw [ek] at hl ⊢
      have h1 := hs k hk
      unfold Settled at h1
      rw [hl] at h1
      show tkT mark t k (u :: r) = t
      unfold tkT
      have : tkA mark t.1 t.2.1 k (u :: r) = (t.1, t.2.1, 0) := by unfold tkA; simp only [h1, if_true]
      rw [this]; rfl
    · rw [if_neg hN] at hl; cases hl
theorem fold_again (l : List Int) {t : Tri} (h : Chs t.1 t.2.1) (hs : ∀ j, j < t.1.nN → Settled mark t j) : l.foldl (one mark) t = t := by
  induction l with
  | nil => rfl
  | cons x l ih => rw [List.foldl_cons, one_again h hs]; exact ih

end Go.Proofs.YtbodobdllchmgaaDoor
namespace Go.Proofs.YtbodobdllchmgaaDoor
open Go Go.RowKit
set_option linter.unusedVariables false

variable {o : List Nat} {w0 w : World} {B : Part}

/-- Numbers, as they came. -/
structure IV where
  p : Option Addr
  n : Nat
  c : Nat
  z : Nat → Int
/-- Gaps that can be read. -/
def GapIn (w : World) (p : Option Addr) (n : Nat) (f : Nat → IV) : Prop :=
  0 < n → ∃ g off, p = some ⟨g, off, none⟩ ∧ ∀ i, i < n → w.cell? ⟨g, off + i, none⟩ = some (.slice (f i).p (f i).n (f i).c) ∧ InRow w (f i).p (f i).n (f i).z ∧ (f i).n ≤ 9223372036854775807 ∧ ∀ k, k < (f i).n → -9223372036854775808 ≤ (f i).z k ∧ (f i).z k < 9223372036854775808
theorem inrow_kept {w w' : World} {p : Option Addr} {n : Nat} {z : Nat → Int} (h : InRow w p n z) (k : Kept [] w w') : InRow w' p n z := by
  refine ⟨h.1, fun h0 => ?_⟩
  obtain ⟨b, off, e, hb, hc⟩ := h.2 h0
  exact ⟨b, off, e, Nat.lt_of_lt_of_le hb k.size, fun i hi => k.cell (hc i hi) (by simp)⟩
theorem GapIn.kept {w w' : World} {p : Option Addr} {n : Nat} {f : Nat → IV} (h : GapIn w p n f) (k : Kept [] w w') : GapIn w' p n f := by
  intro h0
  obtain ⟨g, off, e, hc⟩ := h h0
  exact ⟨g, off, e, fun i hi => ⟨k.cell (hc i hi).1 (by simp), inrow_kept (hc i hi).2.1 k, (hc i hi).2.2⟩⟩

/-- A chain in order. -/
structure OC where
  pb : Option Addr
  nb : Nat
  cb : Nat
  pe : Option Addr
  ne : Nat
  ce : Nat
  bs : List Int
  es : List Int
def OC.vb (x : OC) : Value := .slice x.pb x.nb x.cb
def OC.ve (x : OC) : Value := .slice x.pe x.ne x.ce
structure OC.good (x : OC) : Prop where
  ord : ∃ t, OrdL x.bs x.es t ∧ t ≤ 120
  few : x.bs.length ≤ 30
noncomputable def Part.oc (x : OC) : Part := (Part.u64s x.vb x.bs).sep (.u64s x.ve x.es)
noncomputable def Part.ocs (n : Nat) (F : Nat → OC) : Part := .all n fun j => .oc (F j)
def updO (F : Nat → OC) (i : Nat) (x : OC) : Nat → OC := fun j => if j = i then x else F j

theorem u64_wrow {v : Value} {l : List Int} (h : Has o w0 w (.u64s v l)) (hl : ∀ x ∈ l, 0 ≤ x ∧ x < 18446744073709551616) : ∃ p c, v = .slice p l.length c ∧ WRow w p l.length c (fun k => l.getD k 0) := by
  obtain ⟨fp, ⟨hr, _⟩, _⟩ := h
  have hg : ∀ i, i < l.length → 0 ≤ l.getD i 0 ∧ l.getD i 0 < 18446744073709551616 := fun i hi => by
    rw [List.getD_eq_getElem?_getD, List.getElem?_eq_getElem hi]; exact hl _ (List.getElem_mem hi)
  rcases row_val hr with ⟨e, h0⟩ | ⟨g, c, e, h1, h2, h3, h4, h5⟩
  · refine ⟨none, 0, by rw [h0]; exact e, fun _ => ⟨h0, rfl⟩, by omega, Nat.zero_le _, hg, fun h => by omega⟩
  · refine ⟨_, c, e, (fun e => by cases e), h1, h2, hg, fun _ => ⟨g, 0, rfl, h3, fun i hi => ?_⟩⟩
    rw [Nat.zero_add]
    refine h5 i _ ?_
    rw [List.getElem?_map, List.getElem?_eq_getElem hi, List.getD_eq_getElem?_getD, List.getElem?_eq_getElem hi]; rfl

theorem oc_more {n : Nat} {F : Nat → OC} (h : Has o w0 w (.ocs n F)) {w' : World} {x : OC} (hx : Has [] w w' (.oc x)) : Has o w0 w' (.ocs (n + 1) (updO F n x)) := by
  have h1 : Has o w0 w (.all n fun j => .oc (updO F n x j)) := h.congr fun j hj => by unfold updO; rw [if_neg (by omega)]
  refine h1.more ?_
  unfold updO
  rw [if_pos rfl]; exact hx

theorem ocs_beside {n : Nat} {F : Nat → OC} (h : Has o w0 w (B.sep (.ocs n F))) {w' : World} {x : OC} (hx : Has [] w w' (.oc x)) : Has o w0 w' (B.sep (.ocs (n + 1) (updO F n x))) := by
  obtain ⟨fp, ⟨f, g, hB, hF, hd, rfl⟩, hn, k⟩ := h
  obtain ⟨q, hq, hqn, kq⟩ := hx
  have hgl := (Part.ocs n F).lt hF
  have hfl := B.lt hB
  obtain ⟨g', hg', hgn', _⟩ := oc_more (o := g) (w0 := w) (⟨g, hF, fun x hx => .inl hx, Kept.refl _ _⟩ : Has g w w (.ocs n F)) (⟨q, hq, hqn, kq⟩ : Has [] w w' (.oc x))
  have hB' := B.kept hB kq (by simp)
  refine ⟨f ++ g', ⟨f, g', hB', hg', fun x hx hx' => ?_, rfl⟩, fun x hx => ?_, ?_⟩
  · rcases hgn' x hx' with h1 | h1
    · exact hd x hx h1
    · exact absurd (hfl x hx) (by omega)
  · rcases List.mem_append.1 hx with h1 | h1
    · exact hn x (by simp [h1])
    · rcases hgn' x h1 with h2 | h2
      · exact hn x (by simp [h2])
      · right; have := k.size; omega
  · exact k.trans kq (fun _ _ h => by simp at h)

/-- The chains that are made, as they are read. -/
def OC.cv (x : OC) : CV := ⟨x.pb, x.nb, x.cb, fun k => x.bs.getD k 0, x.pe, x.ne, x.ce, fun k => x.es.getD k 0⟩
def ocRow (F : Nat → OC) (j : Nat) : List Value := [(F j).vb, (F j).ve]
theorem chains_made {p : Option Addr} {n c : Nat} {F : Nat → OC} (h : Has o w0 w ((Part.rows 50 2 (.slice p n c) n (ocRow F)).sep (.ocs n F))) (hg : ∀ j, j < n → (F j).good) : ChIn w p n (fun j => (F j).cv) ∧ ∀ j, j < n → (F j).nb = (F j).bs.length ∧ (F j).ne = (F j).es.length := by
  have key : ∀ j, j < n → ((F j).nb = (F j).bs.length ∧ (F j).ne = (F j).es.length) ∧ WRow w (F j).pb (F j).nb (F j).cb (fun k => (F j).bs.getD k 0) ∧ WRow w (F j).pe (F j).ne (F j).ce (fun k => (F j).es.getD k 0) := by
    intro j hj
    obtain ⟨_, h2, _⟩ := h.right
    obtain ⟨_, h3, _⟩ := Has.pick h2 hj
    obtain ⟨_, h4, _⟩ := Has.left (A := .u64s (F j).vb (F j).bs) (B := .u64s (F j).ve (F j).es) h3
    obtain ⟨_, h5, _⟩ := Has.right (A := .u64s (F j).vb (F j).bs) (B := .u64s (F j).ve (F j).es) h3
    obtain ⟨t, ho, ht⟩ := (hg j hj).ord
    obtain ⟨p4, c4, e4, r4⟩ := u64_wrow h4 (fun x hx => by have := ho.b x hx; omega)
    obtain ⟨p5, c5, e5, r5⟩ := u64_wrow h5 (fun x hx => by have := ho.e x hx; omega)
    unfold OC.vb at e4
    unfold OC.ve at e5
    simp only [Value.slice.injEq] at e4 e5
    obtain ⟨rfl, e42, rfl⟩ := e4
    obtain ⟨rfl, e52, rfl⟩ := e5
    exact ⟨⟨e42, e52⟩, by rw [e42]; exact r4, by rw [e52]; exact r5⟩
  refine ⟨fun h0 => ?_, fun j hj => (key j hj).1⟩
  obtain ⟨_, h1, _⟩ := h.left
  obtain ⟨g, cap, e, _, _, _⟩ := h1.rowsAt (fun _ => rfl) h0
  obtain ⟨rfl, rfl⟩ : p = _ ∧ c = cap := by simpa using e
  refine ⟨g, 0, rfl, fun j hj => ?_⟩
  obtain ⟨g', cap', e', hc, _, _⟩ := h1.rowsAt (fun _ => rfl) hj
  obtain ⟨rfl, rfl⟩ : g = g' ∧ c = cap' := by simpa using e'
  have c0 := hc 0 (F j).vb rfl
  have c1 := hc 1 (F j).ve rfl
  rw [Nat.zero_add]
  exact ⟨c0, c1, (key j hj).2⟩

theorem ocRow_upd (F : Nat → OC) (n : Nat) (x : OC) : (fun d => if d = n then [x.vb, x.ve] else ocRow F d) = ocRow (updO F n x) := by
  funext d
  unfold ocRow updO
  split <;> rfl
theorem updO_good {n : Nat} {F : Nat → OC} {x : OC} (h : ∀ j, j < n → (F j).good) (hx : x.good) : ∀ j, j < n + 1 → (updO F n x j).good := by
  intro j hj
  unfold updO
  split
  · exact hx
  · exact h j (by omega)
theorem info_chain : (Tryd.prog.info? 50).map (fun i => (i.zero, i.size, i.bytes)) = some (some (.agg #[.slice none 0 0, .slice none 0 0]), 2, 48) := by kernel_rfl

theorem begins_low {q : Int} (h0 : 0 ≤ q) (h1 : q ≤ 120) : wBegins q = true := by
  unfold wBegins wOk; simp; omega
theorem ends_low {q : Int} (h0 : 0 ≤ q) (h1 : q ≤ 120) : endW q = q := by
  unfold endW
  rw [if_pos]
  unfold wOk; simp; omega

/-- What the laid words of a chain in order are. -/
theorem wds_ord {bs es : List Int} {t : Int} (h : OrdL bs es t) (ht : t ≤ 120) (k : Nat) (hk : k ≤ bs.length) :
    (wds (fun i => bs.getD i 0) (fun i => es.getD i 0) es.length k).Pairwise (fun x y => y.2 ≤ x.1) ∧ ∀ y ∈ wds (fun i => bs.getD i 0) (fun i => es.getD i 0) es.length k, (∃ i, i < k ∧ y.1 = bs.getD i 0 ∧ (i < es.length → y.2 = es.getD i 0)) ∧ 0 ≤ y.1 ∧ y.1 ≤ 120 ∧ 0 ≤ y.2 ∧ y.2 ≤ 1099511627776 := by
  have hb : ∀ i, i < bs.length → 0 ≤ bs.getD i 0 ∧ bs.getD i 0 ≤ t := fun i hi => by
    rw [List.getD_eq_getElem?_getD, List.getElem?_eq_getElem hi]; exact h.b _ (List.getElem_mem hi)
  have he : ∀ i, i < es.length → 0 ≤ es.getD i 0 ∧ es.getD i 0 ≤ t := fun i hi => by
    rw [List.getD_eq_getElem?_getD, List.getElem?_eq_getElem hi]; exact h.e _ (List.getElem_mem hi)
  induction k with
  | zero => exact ⟨List.Pairwise.nil, fun y hy => by cases hy⟩
  | succ k ih =>
    obtain ⟨i1, i2⟩ := ih (by omega)
    have hb1 := hb k (by omega)
    have hwb : wBegins (bs.getD k 0) = true := begins_low hb1.1 (by omega)
    rw [wds_yes hwb]
    refine ⟨List.pairwise_cons.2 ⟨fun y hy => ?_, i1⟩, fun y hy => ?_⟩
    · obtain ⟨⟨i, hi, _, h2⟩, _⟩ := i2 y hy
      have := h.ord i k hi (by omega)
      have hl := h.len
      rw [h2 (by omega)]; exact this
    · rcases List.mem_cons.1 hy with rfl | hy
      · have hew : ∀ hke : k < es.length, endW (es.getD k 0) = es.getD k 0 := fun hke => ends_low (he k hke).1 (by have := (he k hke).2; omega)
        refine ⟨⟨k, by omega, rfl, fun hke => by show (if k < es.length then _ else _) = _; rw [if_pos hke, hew hke]⟩, hb1.1, by show bs.getD k 0 ≤ 120; omega, ?_⟩
        show 0 ≤ (if k < es.length then endW (es.getD k 0) else 1099511627776) ∧ (if k < es.length then endW (es.getD k 0) else 1099511627776) ≤ 1099511627776
        split
        · rename_i hke; rw [hew hke]; have := he k hke; omega
        · omega
      · obtain ⟨⟨i, hi, h1, h2⟩, h3⟩ := i2 y hy
        exact ⟨⟨i, by omega, h1, h2⟩, h3⟩

/-- Chains in order, as they were laid. -/
theorem laid_ord {A : ASt} {ch : Nat → List Nat} {m : Nat} {F : Nat → OC} (h : LaidAt A ch m (WL (fun j => (F j).cv) m)) (hg : ∀ j, j < m → (F j).good) (hl : ∀ j, j < m → (F j).nb = (F j).bs.length ∧ (F j).ne = (F j).es.length) (mark : Int) (j : Nat) : OrdM A mark (ch j) ∧ Timely A (ch j) := by
  by_cases hj : j < m
  · obtain ⟨t, ho, ht⟩ := (hg j hj).ord
    have hw := h.words j
    unfold WL at hw
    rw [if_pos hj] at hw
    have hnb : to30 (F j).cv.nb = (F j).bs.length := by
      have h1 := (hg j hj).few
      have h2 := (hl j hj).1
      show to30 (F j).nb = _
      unfold to30; split <;> omega
    rw [hnb] at hw
    have hne : (F j).cv.ne = (F j).es.length := (hl j hj).2
    rw [hne] at hw
    obtain ⟨p1, p2⟩ := wds_ord ho ht (F j).bs.length (Nat.le_refl _)
    have hw' : (ch j).map (pr A) = wds (fun i => (F j).bs.getD i 0) (fun i => (F j).es.getD i 0) (F j).es.length (F j).bs.length := hw
    rw [← hw'] at p1 p2
    refine ⟨?_, fun v hv => ?_⟩
    · rw [List.pairwise_map] at p1
      exact p1.imp fun {x y} hxy hx => Int.le_trans hxy hx
    · obtain ⟨_, h1, h2, h3, h4⟩ := p2 (pr A v) (List.mem_map_of_mem hv)
      exact ⟨h1, by have h2' : bgn A v ≤ 120 := h2; omega, h3, h4⟩
  · rw [h.low j (by omega)]
    exact ⟨List.Pairwise.nil, fun v hv => by cases hv⟩
end Go.Proofs.YtbodobdllchmgaaDoor
namespace Go.Proofs.YtbodobdllchmgaaDoor
open Go Go.ChangeShapes Go.WideShapes Go.ChangeAt Go.RowKit
set_option linter.unusedVariables false
section
variable {H : Type} {enc : TypeId × Value → H}

theorem rk_cellsInts : Tryd.prog.cellsOf 22 = 1 := by kernel_rfl

set_option maxRecDepth 100000 in
/-- Numbers inside something that came in. -/
theorem ints_trod {W : World} {fuel : Nat} {vcs : List Value} {y : DataW H × List MemPlace} (h : DataW.trod enc Tryd.prog W 0 (fun _ => true) true fuel 22 vcs = some y) :
    ∃ x : IV, vcs = [.slice x.p x.n x.c] ∧ InRow W x.p x.n x.z ∧ x.n ≤ 9223372036854775807 ∧ ∀ k, k < x.n → -9223372036854775808 ≤ x.z k ∧ x.z k < 9223372036854775808 := by
  have hm9 : maxLen ≤ 9223372036854775807 := by decide
  rcases open_ints (k := .i64) Tryd.underlying22 Tryd.underlying3 (by kernel_rfl) h with ⟨hcs, hx⟩ | ⟨a, len, cap, zs, hcs, _, hl, hm, hz, hx, hcell, hwz⟩
  · exact ⟨⟨none, 0, 0, fun _ => 0⟩, hcs, ⟨fun _ => rfl, fun h => absurd h (Nat.lt_irrefl 0)⟩, Nat.zero_le _, fun i hi => absurd hi (Nat.not_lt_zero i)⟩
  · simp only [if_true] at hz
    refine ⟨⟨some a, len, cap, fun i => zs.getD i 0⟩, hcs, ⟨fun e => (by cases e), fun hpos => ?_⟩, Nat.le_trans (Nat.le_trans hl hm) hm9, fun i hi => ?_⟩
    · have hpos' : 0 < len := hpos
      have h0 : W.cell? a = some (.int .i64 (zs.getD 0 0)) := by have := hcell 0 (by omega); simpa [Addr.add] using this
      have hsp := World.cell?_spot h0
      obtain ⟨b, off, spot⟩ := a
      obtain rfl : spot = none := hsp
      have hcell' : ∀ i, i < len → W.cell? ⟨b, off + i, none⟩ = some (.int .i64 (zs.getD i 0)) := by
        intro i hi
        have := hcell i (by omega)
        rwa [addr_add] at this
      refine ⟨b, off, rfl, ?_, hcell'⟩
      have := hcell' 0 hpos
      simp only [World.cell?] at this
      split at this
      · rename_i c _ _ hh
        exact (Array.getElem?_eq_some_iff.1 hh).1
      · cases this
    · have hi1 : i < len := hi
      have hi2 : i < zs.length := by omega
      have := hwz (zs[i]) (List.getElem_mem hi2)
      have e : zs.getD i 0 = zs[i] := by rw [List.getD_eq_getElem?_getD, List.getElem?_eq_getElem hi2]; rfl
      show -9223372036854775808 ≤ zs.getD i 0 ∧ zs.getD i 0 < 9223372036854775808
      rw [e]
      exact int_range this

set_option maxRecDepth 100000 in
/-- A slice of slices of numbers that came in. -/
theorem gaps_in {t : TypeId} {W : World} {r : Reach} {b0 : Nat} {v : Value} {d : DataW H} {ps : List MemPlace} (ht : Tryd.prog.underlying t = some (.slice 22))
    (hval : Value.okWide Tryd.prog W r b0 t v) (h : DataW.Trod enc Tryd.prog W 0 (fun _ => true) true t v d ps) :
    ∃ p len cap, ∃ f : Nat → IV, v = .slice p len cap ∧ len ≤ cap ∧ cap ≤ maxLen ∧ ((d = .nil ∧ len = 0) ∨ ∃ elems rest, d = .slice elems rest ∧ elems.length = len) ∧ GapIn W p len f := by
  obtain ⟨p, len, cap, rfl, hl, hm, hd, hp⟩ := rows_in ht rk_cellsInts (by omega) hval h
  by_cases hpos : 0 < len
  · obtain ⟨b, off, rfl, hb, hi⟩ := hp hpos
    have hex : ∀ i, ∃ x : IV, i < len → W.cell? ⟨b, off + i, none⟩ = some (.slice x.p x.n x.c) ∧ InRow W x.p x.n x.z ∧ x.n ≤ 9223372036854775807 ∧ ∀ k, k < x.n → -9223372036854775808 ≤ x.z k ∧ x.z k < 9223372036854775808 := by
      intro i
      by_cases hil : i < len
      · obtain ⟨cs, n, x, hlen, hc, htr⟩ := hi i hil
        obtain ⟨s, rfl, h1, h2, h3⟩ := ints_trod htr
        have c0 := hc 0 (by omega)
        rw [Nat.mul_one, Nat.add_zero] at c0
        exact ⟨s, fun _ => ⟨c0, h1, h2, h3⟩⟩
      · exact ⟨⟨none, 0, 0, fun _ => 0⟩, fun h => absurd h hil⟩
    obtain ⟨f, hf⟩ := Classical.axiomOfChoice hex
    exact ⟨_, len, cap, f, rfl, hl, hm, hd, fun _ => ⟨b, off, rfl, fun i hi => hf i hi⟩⟩
  · exact ⟨p, len, cap, fun _ => ⟨none, 0, 0, fun _ => 0⟩, rfl, hl, hm, hd, fun h => absurd h hpos⟩
end
end Go.Proofs.YtbodobdllchmgaaDoor
