/- What the laws on seen versions read: what is seen of each chain, in one list; how a sweep leaves it.
The walk of SweepKeeps: true at all gaps, all marks, and nothing that was there has changed. -/
import Derived.Test.YtbodobdllchmgaaDoorMKeeps14
namespace Go.Proofs.YtbodobdllchmgaaDoor
open Go Go.RowKit
set_option linter.unusedVariables false

variable {o : List Nat} {w0 w : World} {b ob : Nat} {A : ASt} {mark : Int} {R C K X B : Part} {ch : Nat → List Nat}

/-- What is seen of each chain, q times from the mark on. -/
def wasL (A : ASt) (ch : Nat → List Nat) (mark : Int) (q K : Nat) : List Int := (List.range K).map fun k => ((seesF A (mark + ((k % q : Nat) : Int)) (ch (k / q)) : Nat) : Int)
theorem wasL_len (A : ASt) (ch : Nat → List Nat) (mark : Int) (q K : Nat) : (wasL A ch mark q K).length = K := by unfold wasL; simp
theorem wasL_zero (A : ASt) (ch : Nat → List Nat) (mark : Int) (q : Nat) : wasL A ch mark q 0 = [] := rfl
theorem wasL_get {A : ASt} {ch : Nat → List Nat} {mark : Int} {q i d K : Nat} (hd : d < q) (hK : q * i + d < K) : (wasL A ch mark q K).getD (q * i + d) 0 = ((seesF A (mark + (d : Int)) (ch i) : Nat) : Int) := by
  unfold wasL
  rw [List.getD_eq_getElem?_getD, List.getElem?_map, List.getElem?_range hK, Option.map_some, Nat.mul_add_mod, Nat.mod_eq_of_lt hd, Nat.mul_add_div (by omega), Nat.div_eq_of_lt hd, Nat.add_zero]
  rfl
theorem wasL_succ {A : ASt} {ch : Nat → List Nat} {mark : Int} {q i d : Nat} (hd : d < q) : wasL A ch mark q (q * i + (d + 1)) = wasL A ch mark q (q * i + d) ++ [((seesF A (mark + (d : Int)) (ch i) : Nat) : Int)] := by
  unfold wasL
  rw [← Nat.add_assoc, List.range_succ, List.map_append, List.map_singleton, Nat.mul_add_mod, Nat.mod_eq_of_lt hd, Nat.mul_add_div (by omega), Nat.div_eq_of_lt hd, Nat.add_zero]

/-- A sweep's own part ahead of all else. -/
theorem op_ahead {nv2 : Value} {l : List Int} (h : Has o w0 w (((Part.store b A).sep R).sep ((Part.ints nv2 l).sep K))) : Has o w0 w (((Part.store b A).sep (K.sep (.ints nv2 l))).sep R) := by
  have h1 := h.assoc
  obtain ⟨o', h', _, _, b'⟩ := h1.right
  have h2 := h'.swap
  obtain ⟨o2, h3, _, _, b2⟩ := h2.left
  exact (b' _ _ (b2 _ _ h3.swap)).assoc'
theorem cur_begins {fv nv : Value} {gone : Int} {dn : Bool} {l : List Int} (h : Has o w0 w (.sw b ob A nv mark fv gone dn nv l)) : CurAt nv nv l l := by
  rcases sw_view h with ⟨e, h0⟩ | ⟨g, cap, e, h1, h2⟩
  · exact .inl ⟨h0, none, 0, e⟩
  · cases l with
    | nil => exact .inl ⟨rfl, _, cap, e⟩
    | cons x l =>
      have h3 : maxLen ≤ 9223372036854775807 := by decide
      simp only [List.length_cons] at h1 e ⊢
      refine .inr ⟨g, 0, l.length, cap - 1, cap, by rw [e]; rfl, by rw [e, show cap - 1 + 1 = cap by omega], by simp, by omega, by omega, rfl⟩
theorem last_cell {al : List Int} {vp : Option Addr} {n c : Nat} (h : Has o w0 w (X.sep (.ints (.slice vp n c) al))) (hn : n = al.length) {k : Nat} (hk : k < al.length) :
    ∃ g, vp = some ⟨g, 0, none⟩ ∧ w.cell? ⟨g, k, none⟩ = some (.int .i64 (al.getD k 0)) := by
  subst hn
  obtain ⟨_, h3, _⟩ := h.right
  rcases row_val (ap_row h3) with ⟨_, h0⟩ | ⟨g, cap, e, _⟩
  · omega
  obtain ⟨rfl, rfl⟩ : vp = some ⟨g, 0, none⟩ ∧ c = cap := by simpa using e
  obtain ⟨c0, z0⟩ := Has.rowCell h3 k (.int .i64 (al.getD k 0)) (by rw [List.getElem?_map, List.getD_eq_getElem?_getD, List.getElem?_eq_getElem hk]; rfl)
  exact ⟨g, rfl, c0⟩
theorem nodes_get {m i : Nat} (hi : i < m) : (nodesL m).getD i 0 = (i : Int) + 1 := by
  rw [List.getD_eq_getElem?_getD, List.getElem?_eq_getElem (by rw [nodesL_len]; exact hi)]
  simp [nodesL]
theorem last_in {al : List Int} {vp : Option Addr} {c n : Nat} (h : Has o w0 w (X.sep (.ints (.slice vp n c) al))) (hn : n = al.length) : InRow w vp n (fun k => al.getD k 0) := by
  refine ⟨fun e => ?_, fun h0 => ?_⟩
  · subst e
    rcases Nat.eq_zero_or_pos n with h1 | h1
    · exact h1
    · obtain ⟨g, hg, _⟩ := last_cell h hn (k := 0) (by omega)
      cases hg
  · obtain ⟨g, e, _⟩ := last_cell h hn (k := 0) (by omega)
    refine ⟨g, 0, e, ?_, fun k hk => ?_⟩
    · obtain ⟨_, h1, _⟩ := h.right
      rcases row_val (ap_row h1) with ⟨_, h2⟩ | ⟨g', cap, e', _, _, h3, _⟩
      · omega
      · rw [e] at e'
        obtain ⟨rfl, _⟩ : g = g' ∧ _ := by simpa using e'
        exact h3
    · obtain ⟨g', e', hc⟩ := last_cell h hn (k := k) (by omega)
      rw [e] at e'
      obtain rfl : g = g' := by simpa using e'
      rw [Nat.zero_add]; exact hc
theorem chL_node {A : ASt} {ch : Nat → List Nat} {i : Nat} (hi : i < A.nN) : chL A ch ((i : Int) + 1) = ch i := by
  unfold chL
  rw [if_pos (is_node hi), show ((i : Int) + 1 - 1).toNat = i by omega]
theorem chL_few {A : ASt} (hc : Chs A ch) (x : Int) : (chL A ch x).length ≤ A.nV := by
  unfold chL
  split
  · rename_i hN
    obtain ⟨j, rfl, hj, ej, _⟩ := isN_head hc hN
    rw [ej]; exact chain_len hc hj
  · exact Nat.zero_le _
theorem costs_few {A : ASt} (hc : Chs A ch) (l : List Int) : costs A ch l ≤ (3 * A.nV + 2) * l.length := by
  induction l with
  | nil => exact Nat.zero_le _
  | cons x l ih =>
    have := chL_few hc x
    unfold costs cost
    rw [List.length_cons, Nat.mul_succ]
    omega
theorem map_getDs (al : List Int) (n : Nat) (hn : n = al.length) : (List.range n).map (fun k => al.getD k 0) = al := by
  subst hn
  refine List.ext_getElem (by simp) fun i h1 h2 => ?_
  rw [List.getElem_map, List.getElem_range, List.getD_eq_getElem?_getD, List.getElem?_eq_getElem h2]; rfl

/-- Chains in order, read from times. -/
structure Neat (mark : Int) (t : Tri) : Prop where
  ok : AOk t.1
  chs : Chs t.1 t.2.1
  ord : ∀ j, OrdM t.1 mark (t.2.1 j)
  tim : ∀ j, Timely t.1 (t.2.1 j)
theorem one_pre {t : Tri} (h : Chs t.1 t.2.1) (x : Int) (j : Nat) : (one mark t x).2.1 j <+: t.2.1 j := by
  unfold one
  cases hl : chL t.1 t.2.1 x with
  | nil => exact List.prefix_refl _
  | cons u r =>
    unfold chL at hl
    by_cases hN : t.1.isN x = true
    · rw [if_pos hN] at hl
      obtain ⟨k, rfl, hk, ek, _⟩ := isN_head h hN
      rw [ek] at hl ⊢
      obtain ⟨_, h2, _⟩ := tkA_chs (mark := mark) h hk (pre := []) (vs := u :: r) (by simp) hl
      exact h2 j
    · rw [if_neg hN] at hl; cases hl
theorem one_sees {t : Tri} (h : Chs t.1 t.2.1) (ho : ∀ j, OrdM t.1 mark (t.2.1 j)) (x : Int) (j : Nat) {at_ : Int} (ha : mark ≤ at_) : seesF (one mark t x).1 at_ ((one mark t x).2.1 j) = seesF t.1 at_ (t.2.1 j) := by
  unfold one
  cases hl : chL t.1 t.2.1 x with
  | nil => rfl
  | cons u r =>
    unfold chL at hl
    by_cases hN : t.1.isN x = true
    · rw [if_pos hN] at hl
      obtain ⟨k, rfl, hk, ek, _⟩ := isN_head h hN
      rw [ek] at hl ⊢
      exact tkA_sees (mark := mark) h hk (pre := []) (vs := u :: r) (by simp) hl (ho k) j ha
    · rw [if_neg hN] at hl; cases hl
theorem one_neat {t : Tri} (h : Neat mark t) (x : Int) : Neat mark (one mark t x) := by
  obtain ⟨a1, a2, _⟩ := one_ok (mark := mark) h.ok h.chs x
  refine ⟨a1, a2, fun j => ?_, fun j => ?_⟩
  · exact OrdM.same ((h.ord j).sub (one_pre h.chs x j).sublist) fun v _ => one_words h.chs x v
  · refine Timely.same (fun v hv => h.tim j v ((one_pre h.chs x j).subset hv)) fun v _ => one_words h.chs x v
theorem fold_neat (l : List Int) {t : Tri} (h : Neat mark t) : Neat mark (l.foldl (one mark) t) ∧ ∀ j at_, mark ≤ at_ → seesF (l.foldl (one mark) t).1 at_ ((l.foldl (one mark) t).2.1 j) = seesF t.1 at_ (t.2.1 j) := by
  induction l generalizing t with
  | nil => exact ⟨h, fun _ _ _ => rfl⟩
  | cons x l ih =>
    obtain ⟨a, c⟩ := ih (one_neat h x)
    refine ⟨a, fun j at_ ha => (c j at_ ha).trans (one_sees h.chs h.ord x j ha)⟩
theorem nodes_mem {m j : Nat} (hj : j < m) : (j : Int) + 1 ∈ nodesL m := by
  unfold nodesL
  exact List.mem_map.2 ⟨j, List.mem_range.2 hj, rfl⟩

/-- A sweep of all nodes, then another: what it leaves; the second one takes nothing. -/
theorem sweep_twice {A : ASt} {ch : Nat → List Nat} {m : Nat} (h : Neat mark (A, ch, 0)) (hm : A.nN = m) : ∃ F : Tri, (nodesL m).foldl (one mark) (A, ch, 0) = F ∧ Neat mark F ∧ F.1.nV = A.nV ∧ F.1.nN = m ∧ (∀ st, (nodesL m).foldl (one mark) (F.1.at st, F.2.1, 0) = (F.1.at st, F.2.1, 0)) ∧
    ∀ j at_, mark ≤ at_ → seesF F.1 at_ (F.2.1 j) = seesF A at_ (ch j) := by
  obtain ⟨a, c⟩ := fold_neat (nodesL m) h
  obtain ⟨_, _, _, k4, k5⟩ := fold_ok (mark := mark) (nodesL m) (t := (A, ch, 0)) h.ok h.chs
  refine ⟨_, rfl, a, k4, k5.trans hm, fun st => ?_, c⟩
  refine fold_again (t := (((nodesL m).foldl (one mark) (A, ch, 0)).1.at st, ((nodesL m).foldl (one mark) (A, ch, 0)).2.1, 0)) (nodesL m) (a.chs.at st) fun j hj => ?_
  have hj' : j < A.nN := by rw [← k5]; exact hj
  exact fold_settled (mark := mark) (nodesL m) h.ok h.chs j hj' (.inr (nodes_mem (by rw [← hm]; exact hj')))
end Go.Proofs.YtbodobdllchmgaaDoor
namespace Go.Proofs.YtbodobdllchmgaaDoor
open Go Go.RowKit
set_option linter.unusedVariables false

theorem seesF_at (A : ASt) (s at_ : Int) (l : List Nat) : seesF (A.at s) at_ l = seesF A at_ l := sees_same fun v => ⟨rfl, rfl⟩

set_option maxHeartbeats 16000000 in
set_option maxRecDepth 100000 in
theorem keeps_law (w : World) (hT : TabAt w) (p : Option Addr) (n cap : Nat) (f : Nat → IV) (hin : GapIn w p n f) (hn : n ≤ 9000000000000000000) (mark : Int) :
    Calls Tryd.prog 7 #[.slice p n cap, .int .i64 mark] w fun e w' => e = .returned (.bool true) ∧ Kept [] w w' := by
  have HT := Lib.hid hT
  have HIN := Lib.hid hin
  obtain ⟨i0, hi0, hz0, hz1, hz2⟩ := info_parts info_int
  obtain ⟨j0, hj0, hy0, hy1, hy2⟩ := info_parts info_chain
  clear hT hin
  go_enter Tryd.func7, Tryd.ntmps7
  go_wp2_with fail
  refine (shown_calls w HT.out).mono ?_
  rintro e w1 ⟨rfl, hk⟩
  have HK1 := Lib.hid hk
  clear hk
  go_wp2_with fail
  go_loopg [6, 7] 10 (fun k cv iv wr => ∃ (i : Nat) (F : Nat → OC), i ≤ n ∧ i ≤ 10 ∧ k = 10 - i ∧ iv = .int .i64 i ∧ (∀ j, j < i → (F j).good) ∧ Has [] w1 wr ((Part.rows 50 2 cv i (ocRow F)).sep (.ocs i F)))
  case atStart => exact ⟨0, fun _ => ⟨none, 0, 0, none, 0, 0, [], []⟩, Nat.zero_le _, Nat.zero_le _, rfl, rfl, fun j hj => absurd hj (Nat.not_lt_zero j), (Has.rowsNil _ _ _ _).beside (Has.nothing _)⟩
  case round =>
    obtain ⟨i, F, hi, hi10, hk, rfl, hgood, hX⟩ := hrel
    have HKK := Lib.hid hk
    have HG := Lib.hid hgood
    have HX := Lib.hid hX
    clear hk hgood hX
    by_cases hlt : i < n ∧ i < 10
    · obtain ⟨hin2, hi2⟩ := hlt
      have d1 : decide ((i : Int) < (n : Int)) = true := by simp; omega
      have d1' : decide (i < n) = true := by simp; omega
      have d2 : decide ((i : Int) < 10) = true := by simp; omega
      have d2' : decide (i < 10) = true := by simp; omega
      have q1 : 0 ≤ (i : Int) ∧ (i : Int) < (n : Int) := by omega
      obtain ⟨g, off, rfl, hcc⟩ := HIN.out (by omega)
      obtain ⟨k1, r1, r2, r3⟩ := hcc i hin2
      have kk := HK1.out.tr HX.out.keeps
      have c1 := kk.cell k1 (by simp)
      have HOW := Lib.hid (ordered_walk _ (f i).p (f i).n (f i).c (f i).z (inrow_kept r1 kk) r2 r3)
      clear hcc k1 r1 r2 r3 kk
      go_wp2_with fail
      refine HOW.out.mono ?_
      rintro e w2 ⟨vb, ve, bs, es, t, rfl, ho, ht, hb, hY⟩
      obtain ⟨_, y1, _⟩ := hY.left
      obtain ⟨_, y2, _⟩ := hY.right
      obtain ⟨pb, kb, rfl, _⟩ := u64_ints y1
      obtain ⟨pe, ke, rfl, _⟩ := u64_ints y2
      have HXX := Lib.hid (ocs_beside (x := ⟨pb, bs.length, kb, pe, es.length, ke, bs, es⟩) HX.out hY)
      have HG2 := Lib.hid (updO_good (x := ⟨pb, bs.length, kb, pe, es.length, ke, bs, es⟩) HG.out ⟨⟨t, ho, ht⟩, hb⟩)
      obtain ⟨o3, h3, _, _, b3⟩ := HXX.out.left
      obtain ⟨rp, rc, rfl⟩ := h3.rowsSlice
      have HROW := Lib.hid (h3.rowsOwn.alloc (.cells #[.slice pb bs.length kb, .slice pe es.length ke] 50))
      have HB3 := Lib.hid b3
      have HX3 := Lib.hid h3
      generalize bs.length = lb at *
      generalize es.length = le at *
      clear hY y1 y2 HX HXX HG h3 b3 HOW c1 ho ht hb
      go_wp2_with (at_builtin; refine wpList_append_new rfl (.tmp 37) (.tmp 43) 36 rfl 50 j0 (.agg #[.slice none 0 0, .slice none 0 0]) 2 48 Tryd.underlying36 hj0 hy0 hy1 hy2 rfl (by decide) _ _ _ rfl HROW.out ⟨_, 0, none⟩ 1 1 [.slice pb lb kb, .slice pe le ke] rfl rfl (cells_any _ _ #[.slice pb lb kb, .slice pe le ke] _ (by simp)) (by simp [Value.oneCell']) (by simp only [maxLen]; omega) (by omega) ?_)
      intro v' w5 happ
      have hX := HB3.out _ _ (Has.rowsMore _ HX3.out happ)
      rw [show (fun d => if d = i then [Value.slice pb lb kb, Value.slice pe le ke] else ocRow F d) = ocRow (updO F i ⟨pb, lb, kb, pe, le, ke, bs, es⟩) from ocRow_upd F i ⟨pb, lb, kb, pe, le, ke, bs, es⟩] at hX
      have HX5 := Lib.hid hX
      clear hX happ HROW HB3 HX3
      go_wp2_with fail
      go_roundg (10 - (i + 1))
      case measure => rw [HKK.out]; omega
      case rel => exact ⟨i + 1, _, by omega, by omega, rfl, by go_num, HG2.out, HX5.out⟩
    · have HST := Lib.hid (show (i < n ∧ decide ((i : Int) < (n : Int)) = true ∧ decide (i < n) = true ∧ decide ((i : Int) < 10) = false ∧ decide (i < 10) = false) ∨ (decide ((i : Int) < (n : Int)) = false ∧ decide (i < n) = false) from by
        by_cases h1 : i < n
        · left; simp; omega
        · right; simp; omega)
      obtain ⟨_, h3, _⟩ := HX.out.left
      obtain ⟨rp, rc, rfl⟩ := h3.rowsSlice
      obtain ⟨hci, hln⟩ := chains_made HX.out HG.out
      have HLD := Lib.hid (laid_walk wr (HT.out.kept (HK1.out.tr HX.out.keeps) (by simp)) rp i rc (fun j => (F j).cv) hci (by omega))
      have HLN := Lib.hid hln
      have HK3 := Lib.hid (HK1.out.tr HX.out.keeps)
      clear h3 hci hln HX hlt HK1 HKK HIN hj0 hy0 hy1 hy2
      obtain ⟨w3, hw3⟩ : ∃ x, x = wr := ⟨_, rfl⟩
      subst hw3
      rcases HST.out with ⟨_, x1, x2, x3, x4⟩ | ⟨x1, x2⟩
      all_goals (
        clear HST
        go_wp2_with fail
        refine HLD.out.mono ?_
        rintro e w4 ⟨b, ab, rb, nv, rfl, hX⟩
        obtain ⟨A, ch, rs, m, hm, hab, hL, hV, hX⟩ := hX
        obtain rfl : m = i := by rw [hm, if_pos (by omega)]
        have HL := Lib.hid hL
        have HV := Lib.hid hV
        have hX2 : Has [] w3 w4 ((Part.store b A).sep (.ints nv (nodesL m))) := hX.weaken (Part.Imp.sep (Part.Imp.fst _ _) (Part.Imp.refl _))
        obtain ⟨_, h1, _⟩ := hX.right
        obtain ⟨np, nc, rfl⟩ := ap_ints h1
        rw [nodesL_len] at hX2
        rw [nodesL_len]
        have HX := Lib.hid (hX2.beside (Has.nilInts _))
        have HOK := Lib.hid (pair_ok hX)
        clear hm hab hL hV hX hX2 h1 HLD x1 x2
        by_cases hm0 : mark < 0
        · have d1 : decide (mark < 0) = true := by simpa using hm0
          have HKE := Lib.hid (HK3.out.tr HX.out.keeps)
          clear HX
          go_wp2_with fail
          go_ret
          exact ⟨rfl, HKE.out⟩
        · by_cases hm2 : 200 < mark
          · have d1 : decide (mark < 0) = false := by simpa using hm0
            have d2 : decide (mark > 200) = true := by simpa using hm2
            have d2' : decide (200 < mark) = true := by simpa using hm2
            have HKE := Lib.hid (HK3.out.tr HX.out.keeps)
            clear HX
            go_wp2_with fail
            go_ret
            exact ⟨rfl, HKE.out⟩
          · have d1 : decide (mark < 0) = false := by simpa using hm0
            have d2 : decide (mark > 200) = false := by simpa using hm2
            have d2' : decide (200 < mark) = false := by simpa using hm2
            have HNT := Lib.hid (show Neat mark (A, ch, 0) from ⟨HOK.out, HL.out.chs, fun j => (laid_ord HL.out HG.out HLN.out mark j).1, fun j => (laid_ord HL.out HG.out HLN.out mark j).2⟩)
            have HNN := Lib.hid HL.out.nN
            have hm9 : m ≤ 9223372036854775807 := by omega
            have e100 : IntKind.i64.wrap (mark + 100) = mark + 100 := by unfold IntKind.wrap; simp [IntKind.bits, IntKind.signed]; omega
            clear HL HLN HG
            go_wp2_with fail
            go_loopg [13, 14] m (fun k wv iv wx => ∃ (j : Nat) (s : Int), j ≤ m ∧ k = m - j ∧ iv = .int .i64 j ∧ Has [] w3 wx (((Part.store b (A.at s)).sep (.ints (.slice np m nc) (nodesL m))).sep (.ints wv (wasL A ch mark 100 (100 * j)))))
            case atStart => exact ⟨0, A.steps, Nat.zero_le _, rfl, rfl, HX.out⟩
            case round =>
              clear HX
              obtain ⟨j, s, hj, hk, rfl, hX⟩ := hrel
              have HKK := Lib.hid hk
              have HX := Lib.hid hX
              clear hk hX
              by_cases hlt : j < m
              · have g1 : decide ((j : Int) < (m : Int)) = true := by simp; omega
                have g1' : decide (j < m) = true := by simp; omega
                go_wp2_with fail
                go_loopg [13, 15] 100 (fun k wv av wx => ∃ (d : Nat) (s : Int), d ≤ 100 ∧ k = 100 - d ∧ av = .int .i64 (mark + (d : Int)) ∧ Has [] w3 wx (((Part.store b (A.at s)).sep (.ints (.slice np m nc) (nodesL m))).sep (.ints wv (wasL A ch mark 100 (100 * j + d)))))
                case atStart => exact ⟨0, s, by omega, rfl, by simp, HX.out⟩
                case round =>
                  clear HX
                  obtain ⟨d, s, hd, hk, rfl, hX⟩ := hrel
                  have HKD := Lib.hid hk
                  have HX := Lib.hid hX
                  clear hk hX
                  by_cases hdl : d < 100
                  · have g2 : decide (mark + (d : Int) < mark + 100) = true := by simp; omega
                    have q1 : 0 ≤ (j : Int) ∧ (j : Int) < (m : Int) := by omega
                    obtain ⟨gn, rfl, cn⟩ := last_cell HX.out.fst (nodesL_len m).symm (k := j) (by rw [nodesL_len]; exact hlt)
                    rw [nodes_get hlt] at cn
                    have HSE := Lib.hid (sees_walk HX.out.assoc (HNT.out.chs.at s) ((j : Int) + 1) (mark + (d : Int)) (by omega) (by omega) (by
                      rw [chL_node (by show j < A.nN; rw [HNN.out]; exact hlt)]; exact HNT.out.tim j) (by show A.nV ≤ _; have := HV.out; omega))
                    have HSN := Lib.hid (show wasL A ch mark 100 (100 * j + (d + 1)) = wasL A ch mark 100 (100 * j + d) ++ [((seesF (A.at s) (mark + (d : Int)) (chL (A.at s) ch ((j : Int) + 1)) : Nat) : Int)] from by
                      rw [chL_node (by show j < A.nN; rw [HNN.out]; exact hlt), seesF_at]; exact wasL_succ hdl)
                    generalize seesF (A.at s) (mark + (d : Int)) (chL (A.at s) ch ((j : Int) + 1)) = sv at *
                    clear HX
                    go_wp2_with fail
                    refine HSE.out.mono ?_
                    rintro e w5 ⟨rfl, s5, hX⟩
                    have hX' : Has [] w3 w5 (((Part.store b (A.at s5)).sep (.ints (.slice (some ⟨gn, 0, none⟩) m nc) (nodesL m))).sep (.ints _ (wasL A ch mark 100 (100 * j + d)))) := hX.assoc'
                    have HX := Lib.hid hX'
                    obtain ⟨_, h5, _⟩ := hX'.right
                    obtain ⟨vp, vc, hwv⟩ := ap_ints h5
                    have HROW := Lib.hid (ap_row (h5.alloc (.cells #[.int .i64 (sv : Nat)] 3)))
                    rw [wasL_len] at HROW hwv
                    subst hwv
                    clear hX hX' h5 HSE cn
                    go_wp2_with (at_builtin; refine wpList_append_new rfl (.tmp 80) (.tmp 88) 22 rfl 3 i0 (.int .i64 0) 1 8 Tryd.underlying22 hi0 hz0 hz1 hz2 rfl (by decide) _ _ _ rfl HROW.out ⟨_, 0, none⟩ 1 1 [.int .i64 (sv : Nat)] rfl rfl (cell_one _ _ _ _ (by simp)) (by intro u hu; simp at hu; subst hu; rfl) (by simp only [maxLen]; omega) (by omega) ?_)
                    intro v' w6 happ
                    have hX := ints_append _ HX.out (by rw [wasL_len]; exact happ)
                    rw [← HSN.out] at hX
                    have HX6 := Lib.hid hX
                    have e1 : IntKind.i64.wrap (mark + (d : Int) + 1) = mark + ((d + 1 : Nat) : Int) := by unfold IntKind.wrap; simp [IntKind.bits, IntKind.signed]; omega
                    clear hX happ HX HROW
                    go_wp2_with fail
                    go_roundg (100 - (d + 1))
                    case measure => rw [HKD.out]; omega
                    case rel => exact ⟨d + 1, s5, by omega, rfl, rfl, HX6.out⟩
                  · have g2 : decide (mark + (d : Int) < mark + 100) = false := by simp; omega
                    obtain rfl : d = 100 := by omega
                    go_wp2_with fail
                    go_roundg (m - (j + 1))
                    case measure => rw [HKK.out]; omega
                    case rel => exact ⟨j + 1, s, by omega, rfl, by go_num, HX.out⟩
              · have g1 : decide ((j : Int) < (m : Int)) = false := by simp; omega
                have g1' : decide (j < m) = false := by simp; omega
                obtain rfl : j = m := by omega
                obtain ⟨_, h5, _⟩ := HX.out.right
                obtain ⟨vp, vc, hwv⟩ := ap_ints h5
                rw [wasL_len] at hwv
                subst hwv
                have hin0 := last_in HX.out.fst (nodesL_len j).symm
                have HBG := Lib.hid (begin_sweep wr (some ⟨b, 0, none⟩) np j nc (fun k => (nodesL j).getD k 0) hin0 (by omega) mark)
                clear hin0 h5
                go_wp2_with fail
                refine HBG.out.mono ?_
                rintro e w5 ⟨ob, nv2, rfl, hX⟩
                rw [map_getDs _ j (nodesL_len j).symm] at hX
                have hX5 : Has [] w3 w5 ((Part.sw b ob (A.at s) nv2 mark (fNode ob) 0 false nv2 (nodesL j)).sep ((Part.ints (.slice np j nc) (nodesL j)).sep (.ints (.slice vp (100 * j) vc) (wasL A ch mark 100 (100 * j))))) := op_ahead (HX.out.assoc.beside hX)
                obtain ⟨os, hs, _, _, bs⟩ := hX5.left
                have hcf := costs_few (A := A.at s) (ch := ch) (HNT.out.chs.at s) (nodesL j)
                rw [nodesL_len] at hcf
                have hcf2 : (3 * (A.at s).nV + 2) * j ≤ 902 * 10 := Nat.mul_le_mul (by show 3 * A.nV + 2 ≤ _; have := HV.out; omega) (by omega)
                have hAok : AOk A := HNT.out.ok
                have hA6 : A.used ≤ 65536 := by have h1 := hAok.fit; have h2 := hAok.big; omega
                have HRA := Lib.hid (run_alone (S := ⟨A.at s, ch, 0, nodesL j, .node⟩) (mark := mark) ⟨nv2, cur_begins hs, hs⟩ (HNT.out.chs.at s) trivial (by show A.nV ≤ _; have := HV.out; omega) (by show A.used + 3 * 0 ≤ _; omega) 100000 (by
                  show ((0 + costs (A.at s) ch (nodesL j) : Nat) : Int) + 1 ≤ _
                  omega) (by omega))
                have HBS := Lib.hid bs
                clear hX hX5 hs bs hcf hcf2 hAok HX HBG
                go_wp2_with fail
                refine HRA.out.mono ?_
                rintro e w6 ⟨kk, rfl, hkk, S1, st1, ⟨cur1, hD⟩, heq, hC1, hN1, hV1, hU1⟩
                have hX6 := HBS.out _ _ hD
                obtain ⟨F, hF, hFN, hFV, hFm, hFS, hFW⟩ := sweep_twice (m := j) HNT.out HNN.out
                have heq' : (S1.A, S1.ch, S1.gone) = atT (atT F s) st1 := by
                  rw [heq, ← hF, ← fold_at]; rfl
                have hA1 : S1.A = F.1.at st1 := congrArg (fun t : Tri => t.1) heq'
                rw [hA1] at hX6
                have hX7 : Has [] w3 w6 ((Part.store b (F.1.at st1)).sep ((Part.ints (.slice np j nc) (nodesL j)).sep (.ints (.slice vp (100 * j) vc) (wasL A ch mark 100 (100 * j))))) := hX6.weaken (Part.Imp.sep (Part.Imp.fst _ _) (Part.Imp.refl _))
                have HX7 := Lib.hid hX7
                have HFN := Lib.hid hFN
                have HFM := Lib.hid hFm
                have HFS := Lib.hid hFS
                have HFW := Lib.hid hFW
                have HFV := Lib.hid (show F.1.nV ≤ 300 from by have h1 : F.1.nV = A.nV := hFV; have := HV.out; omega)
                have hin0 := last_in hX7.assoc'.fst (nodesL_len j).symm
                have HBG := Lib.hid (begin_sweep w6 (some ⟨b, 0, none⟩) np j nc (fun k => (nodesL j).getD k 0) hin0 (by omega) mark)
                have hkd : decide (kk > 0) = true := by simpa using hkk
                clear hF hX6 hX7 hin0 heq heq' hA1 hD hC1 hN1 hV1 hU1 hFN hFV hFm hFS hFW HBS HRA hkk
                go_wp2_with fail
                refine HBG.out.mono ?_
                rintro e w7 ⟨oc, nv3, rfl, hX⟩
                rw [map_getDs _ j (nodesL_len j).symm] at hX
                have hX5 : Has [] w3 w7 ((Part.sw b oc (F.1.at st1) nv3 mark (fNode oc) 0 false nv3 (nodesL j)).sep ((Part.ints (.slice np j nc) (nodesL j)).sep (.ints (.slice vp (100 * j) vc) (wasL A ch mark 100 (100 * j))))) := op_ahead (HX7.out.beside hX)
                obtain ⟨os, hs, _, _, bs⟩ := hX5.left
                have hcf := costs_few (A := F.1.at st1) (ch := F.2.1) (HFN.out.chs.at st1) (nodesL j)
                rw [nodesL_len] at hcf
                have hcf2 : (3 * (F.1.at st1).nV + 2) * j ≤ 902 * 10 := Nat.mul_le_mul (by show 3 * F.1.nV + 2 ≤ _; have := HFV.out; omega) (by omega)
                have hAok : AOk F.1 := HFN.out.ok
                have hA7 : F.1.used ≤ 65536 := by have h1 := hAok.fit; have h2 := hAok.big; omega
                have HRA := Lib.hid (run_alone (S := ⟨F.1.at st1, F.2.1, 0, nodesL j, .node⟩) (mark := mark) ⟨nv3, cur_begins hs, hs⟩ (HFN.out.chs.at st1) trivial (by show F.1.nV ≤ _; have := HFV.out; omega) (by show F.1.used + 3 * 0 ≤ _; omega) 100000 (by
                  show ((0 + costs (F.1.at st1) F.2.1 (nodesL j) : Nat) : Int) + 1 ≤ _
                  omega) (by omega))
                have HBS := Lib.hid bs
                clear hX hX5 hs bs hcf hcf2 hAok HX7 HBG
                go_wp2_with fail
                refine HRA.out.mono ?_
                rintro e w8 ⟨kq, rfl, hkq, S2, st2, ⟨cur2, hD⟩, heq, hC1, hN1, hV1, hU1⟩
                have hX6 := HBS.out _ _ hD
                have heq' : (S2.A, S2.ch, S2.gone) = atT (F.1.at st1, F.2.1, 0) st2 := by
                  rw [heq, ← HFS.out st1]; rfl
                have hA1 : S2.A = F.1.at st2 := congrArg (fun t : Tri => t.1) heq'
                have hG1 : S2.gone = 0 := congrArg (fun t : Tri => t.2.2) heq'
                rw [hA1, hG1] at hX6 hD
                have HX8 := Lib.hid (show Has [] w3 w8 ((Part.store b (F.1.at st2)).sep ((Part.ints (.slice np j nc) (nodesL j)).sep (.ints (.slice vp (100 * j) vc) (wasL A ch mark 100 (100 * j))))) from hX6.weaken (Part.Imp.sep (Part.Imp.fst _ _) (Part.Imp.refl _)))
                have HGN := Lib.hid (gone_at hD)
                have hkd2 : decide (kq > 0) = true := by simpa using hkq
                clear hX6 heq heq' hA1 hG1 hD hC1 hN1 hV1 hU1 HBS HRA hkq
                go_wp2_with fail
                refine HGN.out.mono ?_
                rintro e w9 ⟨rfl, rfl⟩
                clear HGN
                go_wp2_with fail
                go_loopg [22, 23] j (fun k kv iv wx => ∃ (a : Nat) (s : Int), a ≤ j ∧ k = j - a ∧ kv = .int .i64 ((100 * a : Nat) : Int) ∧ iv = .int .i64 a ∧ Has [] w3 wx ((Part.store b (F.1.at s)).sep ((Part.ints (.slice np j nc) (nodesL j)).sep (.ints (.slice vp (100 * j) vc) (wasL A ch mark 100 (100 * j))))))
                case atStart => exact ⟨0, st2, Nat.zero_le _, rfl, rfl, rfl, HX8.out⟩
                case round =>
                  clear HX8
                  obtain ⟨a, s, ha, hk, rfl, rfl, hX⟩ := hrel
                  have HKK := Lib.hid hk
                  have HX := Lib.hid hX
                  clear hk hX
                  by_cases hlt : a < j
                  · have g1 : decide ((a : Int) < (j : Int)) = true := by simp; omega
                    have g1' : decide (a < j) = true := by simp; omega
                    go_wp2_with fail
                    go_loopg [22, 24] 100 (fun k kv av wx => ∃ (d : Nat) (s : Int), d ≤ 100 ∧ k = 100 - d ∧ kv = .int .i64 ((100 * a + d : Nat) : Int) ∧ av = .int .i64 (mark + (d : Int)) ∧ Has [] w3 wx ((Part.store b (F.1.at s)).sep ((Part.ints (.slice np j nc) (nodesL j)).sep (.ints (.slice vp (100 * j) vc) (wasL A ch mark 100 (100 * j))))))
                    case atStart => exact ⟨0, s, by omega, rfl, rfl, by simp, HX.out⟩
                    case round =>
                      clear HX
                      obtain ⟨d, s, hd, hk, rfl, rfl, hX⟩ := hrel
                      have HKD := Lib.hid hk
                      have HX := Lib.hid hX
                      clear hk hX
                      by_cases hdl : d < 100
                      · have g2 : decide (mark + (d : Int) < mark + 100) = true := by simp; omega
                        have q1 : 0 ≤ (a : Int) ∧ (a : Int) < (j : Int) := by omega
                        have q2 : 0 ≤ ((100 * a + d : Nat) : Int) ∧ ((100 * a + d : Nat) : Int) < ((100 * j : Nat) : Int) := by omega
                        obtain ⟨gn, rfl, cn⟩ := last_cell HX.out.assoc'.fst (nodesL_len j).symm (k := a) (by rw [nodesL_len]; exact hlt)
                        rw [nodes_get hlt] at cn
                        have hsv : ((seesF (F.1.at s) (mark + (d : Int)) (chL (F.1.at s) F.2.1 ((a : Int) + 1)) : Nat) : Int) = (wasL A ch mark 100 (100 * j)).getD (100 * a + d) 0 := by
                          rw [chL_node (by show a < F.1.nN; rw [HFM.out]; exact hlt), seesF_at, HFW.out a _ (by omega), wasL_get hdl (by omega)]
                        have HSE := Lib.hid (sees_walk HX.out (HFN.out.chs.at s) ((a : Int) + 1) (mark + (d : Int)) (by omega) (by omega) (by
                          rw [chL_node (by show a < F.1.nN; rw [HFM.out]; exact hlt)]; exact HFN.out.tim a) (by show F.1.nV ≤ _; have := HFV.out; omega))
                        rw [hsv] at HSE
                        have HWN := Lib.hid (wasL_len A ch mark 100 (100 * j))
                        generalize wasL A ch mark 100 (100 * j) = wl at *
                        obtain ⟨sv, hsv2⟩ : ∃ sv, wl.getD (100 * a + d) 0 = sv := ⟨_, rfl⟩
                        rw [hsv2] at HSE
                        have HSV := Lib.hid hsv2
                        clear HX hsv hsv2
                        go_wp2_with fail
                        refine HSE.out.mono ?_
                        rintro e w10 ⟨rfl, s5, hX⟩
                        have HX := Lib.hid (show Has [] w3 w10 ((Part.store b (F.1.at s5)).sep ((Part.ints (.slice (some ⟨gn, 0, none⟩) j nc) (nodesL j)).sep (.ints (.slice vp (100 * j) vc) wl))) from hX)
                        obtain ⟨gv, rfl, cv⟩ := last_cell hX.assoc' HWN.out.symm (k := 100 * a + d) (by rw [HWN.out]; omega)
                        rw [HSV.out] at cv
                        have e1 : IntKind.i64.wrap (mark + (d : Int) + 1) = mark + ((d + 1 : Nat) : Int) := by unfold IntKind.wrap; simp [IntKind.bits, IntKind.signed]; omega
                        have e2 : IntKind.i64.wrap (((100 * a + d : Nat) : Int) + 1) = ((100 * a + (d + 1) : Nat) : Int) := by unfold IntKind.wrap; simp [IntKind.bits, IntKind.signed]; omega
                        clear hX HSE cn
                        go_wp2_with fail
                        go_roundg (100 - (d + 1))
                        case measure => rw [HKD.out]; omega
                        case rel => exact ⟨d + 1, s5, by omega, rfl, rfl, rfl, HX.out⟩
                      · have g2 : decide (mark + (d : Int) < mark + 100) = false := by simp; omega
                        obtain rfl : d = 100 := by omega
                        go_wp2_with fail
                        go_roundg (j - (a + 1))
                        case measure => rw [HKK.out]; omega
                        case rel => exact ⟨a + 1, s, by omega, rfl, rfl, by go_num, HX.out⟩
                  · have g1 : decide ((a : Int) < (j : Int)) = false := by simp; omega
                    have g1' : decide (a < j) = false := by simp; omega
                    have HKE := Lib.hid (HK3.out.tr HX.out.keeps)
                    clear HX
                    go_wp2_with fail
                    go_ret
                    exact ⟨rfl, HKE.out⟩)
end Go.Proofs.YtbodobdllchmgaaDoor
