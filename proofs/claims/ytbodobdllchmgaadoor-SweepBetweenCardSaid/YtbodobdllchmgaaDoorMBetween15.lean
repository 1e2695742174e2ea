/- What the laws on seen versions read: what is seen of each chain, in one list; how a sweep leaves it.
A sweep between whose steps newer versions are pushed: what stays so.
The walk of SweepBetween: true at all gaps, all marks, all pushes, and nothing that was there has changed. -/
import Derived.Test.YtbodobdllchmgaaDoorMBetween14
namespace Go.Proofs.YtbodobdllchmgaaDoor
open Go Go.RowKit
set_option linter.unusedVariables false

variable {o : List Nat} {w0 w : World} {b ob : Nat} {A : ASt} {mark : Int} {R C K X B : Part} {ch : Nat → List Nat}

/-- What is seen of each chain, q times from the mark on. -/
def wasL (A : ASt) (ch : Nat → List Nat) (mark : Int) (q K : Nat) : List Int := (List.range K).map fun k => ((seesF A (mark + ((k % q : Nat) : Int)) (ch (k / q)) : Nat) : Int)
theorem wasL_len (A : ASt) (ch : Nat → List Nat) (mark : Int) (q K : Nat) : (wasL A ch mark q K).length = K := by unfold wasL; simp
theorem wasL_zero (A : ASt) (ch : Nat → List Nat) (mark : Int) (q : Nat) : wasL A ch mark q 0 = [] := rfl
theorem wasL_get {A : ASt} {ch : Nat → List Nat} {mark : Int} {q i d K : Nat} (hd : d < q) (hK : q * i + d < K) : (wasL A ch mark q K).getD (q * i + d) 0 = ((seesF A (mark + (d : Int)) (ch i) : Nat) : Int) := by
  unfold wasL
  rw [List.getD_eq_getElem?_getD, List.getElem?_map, List.getElem?_range hK, Option.map_some, Nat.mul_add_mod, Nat.mod_eq_of_lt hd, Nat.mul_add_div (by omega), Nat.div_eq_of_lt hd, Nat.add_zero]
  rfl
theorem wasL_succ {A : ASt} {ch : Nat → List Nat} {mark : Int} {q i d : Nat} (hd : d < q) : wasL A ch mark q (q * i + (d + 1)) = wasL A ch mark q (q * i + d) ++ [((seesF A (mark + (d : Int)) (ch i) : Nat) : Int)] := by
  unfold wasL
  rw [← Nat.add_assoc, List.range_succ, List.map_append, List.map_singleton, Nat.mul_add_mod, Nat.mod_eq_of_lt hd, Nat.mul_add_div (by omega), Nat.div_eq_of_lt hd, Nat.add_zero]

/-- A sweep's own part ahead of all else. -/
theorem op_ahead {nv2 : Value} {l : List Int} (h : Has o w0 w (((Part.store b A).sep R).sep ((Part.ints nv2 l).sep K))) : Has o w0 w (((Part.store b A).sep (K.sep (.ints nv2 l))).sep R) := by
  have h1 := h.assoc
  obtain ⟨o', h', _, _, b'⟩ := h1.right
  have h2 := h'.swap
  obtain ⟨o2, h3, _, _, b2⟩ := h2.left
  exact (b' _ _ (b2 _ _ h3.swap)).assoc'
theorem cur_begins {fv nv : Value} {gone : Int} {dn : Bool} {l : List Int} (h : Has o w0 w (.sw b ob A nv mark fv gone dn nv l)) : CurAt nv nv l l := by
  rcases sw_view h with ⟨e, h0⟩ | ⟨g, cap, e, h1, h2⟩
  · exact .inl ⟨h0, none, 0, e⟩
  · cases l with
    | nil => exact .inl ⟨rfl, _, cap, e⟩
    | cons x l =>
      have h3 : maxLen ≤ 9223372036854775807 := by decide
      simp only [List.length_cons] at h1 e ⊢
      refine .inr ⟨g, 0, l.length, cap - 1, cap, by rw [e]; rfl, by rw [e, show cap - 1 + 1 = cap by omega], by simp, by omega, by omega, rfl⟩
theorem last_cell {al : List Int} {vp : Option Addr} {n c : Nat} (h : Has o w0 w (X.sep (.ints (.slice vp n c) al))) (hn : n = al.length) {k : Nat} (hk : k < al.length) :
    ∃ g, vp = some ⟨g, 0, none⟩ ∧ w.cell? ⟨g, k, none⟩ = some (.int .i64 (al.getD k 0)) := by
  subst hn
  obtain ⟨_, h3, _⟩ := h.right
  rcases row_val (ap_row h3) with ⟨_, h0⟩ | ⟨g, cap, e, _⟩
  · omega
  obtain ⟨rfl, rfl⟩ : vp = some ⟨g, 0, none⟩ ∧ c = cap := by simpa using e
  obtain ⟨c0, z0⟩ := Has.rowCell h3 k (.int .i64 (al.getD k 0)) (by rw [List.getElem?_map, List.getD_eq_getElem?_getD, List.getElem?_eq_getElem hk]; rfl)
  exact ⟨g, rfl, c0⟩
theorem nodes_get {m i : Nat} (hi : i < m) : (nodesL m).getD i 0 = (i : Int) + 1 := by
  rw [List.getD_eq_getElem?_getD, List.getElem?_eq_getElem (by rw [nodesL_len]; exact hi)]
  simp [nodesL]
theorem last_in {al : List Int} {vp : Option Addr} {c n : Nat} (h : Has o w0 w (X.sep (.ints (.slice vp n c) al))) (hn : n = al.length) : InRow w vp n (fun k => al.getD k 0) := by
  refine ⟨fun e => ?_, fun h0 => ?_⟩
  · subst e
    rcases Nat.eq_zero_or_pos n with h1 | h1
    · exact h1
    · obtain ⟨g, hg, _⟩ := last_cell h hn (k := 0) (by omega)
      cases hg
  · obtain ⟨g, e, _⟩ := last_cell h hn (k := 0) (by omega)
    refine ⟨g, 0, e, ?_, fun k hk => ?_⟩
    · obtain ⟨_, h1, _⟩ := h.right
      rcases row_val (ap_row h1) with ⟨_, h2⟩ | ⟨g', cap, e', _, _, h3, _⟩
      · omega
      · rw [e] at e'
        obtain ⟨rfl, _⟩ : g = g' ∧ _ := by simpa using e'
        exact h3
    · obtain ⟨g', e', hc⟩ := last_cell h hn (k := k) (by omega)
      rw [e] at e'
      obtain rfl : g = g' := by simpa using e'
      rw [Nat.zero_add]; exact hc
theorem chL_node {A : ASt} {ch : Nat → List Nat} {i : Nat} (hi : i < A.nN) : chL A ch ((i : Int) + 1) = ch i := by
  unfold chL
  rw [if_pos (is_node hi), show ((i : Int) + 1 - 1).toNat = i by omega]
theorem chL_few {A : ASt} (hc : Chs A ch) (x : Int) : (chL A ch x).length ≤ A.nV := by
  unfold chL
  split
  · rename_i hN
    obtain ⟨j, rfl, hj, ej, _⟩ := isN_head hc hN
    rw [ej]; exact chain_len hc hj
  · exact Nat.zero_le _
theorem costs_few {A : ASt} (hc : Chs A ch) (l : List Int) : costs A ch l ≤ (3 * A.nV + 2) * l.length := by
  induction l with
  | nil => exact Nat.zero_le _
  | cons x l ih =>
    have := chL_few hc x
    unfold costs cost
    rw [List.length_cons, Nat.mul_succ]
    omega
theorem map_getDs (al : List Int) (n : Nat) (hn : n = al.length) : (List.range n).map (fun k => al.getD k 0) = al := by
  subst hn
  refine List.ext_getElem (by simp) fun i h1 h2 => ?_
  rw [List.getElem_map, List.getElem_range, List.getD_eq_getElem?_getD, List.getElem?_eq_getElem h2]; rfl

/-- Chains in order, read from times. -/
structure Neat (mark : Int) (t : Tri) : Prop where
  ok : AOk t.1
  chs : Chs t.1 t.2.1
  ord : ∀ j, OrdM t.1 mark (t.2.1 j)
  tim : ∀ j, Timely t.1 (t.2.1 j)
theorem one_pre {t : Tri} (h : Chs t.1 t.2.1) (x : Int) (j : Nat) : (one mark t x).2.1 j <+: t.2.1 j := by
  unfold one
  cases hl : chL t.1 t.2.1 x with
  | nil => exact List.prefix_refl _
  | cons u r =>
    unfold chL at hl
    by_cases hN : t.1.isN x = true
    · rw [if_pos hN] at hl
      obtain ⟨k, rfl, hk, ek, _⟩ := isN_head h hN
      rw [ek] at hl ⊢
      obtain ⟨_, h2, _⟩ := tkA_chs (mark := mark) h hk (pre := []) (vs := u :: r) (by simp) hl
      exact h2 j
    · rw [if_neg hN] at hl; cases hl
theorem one_sees {t : Tri} (h : Chs t.1 t.2.1) (ho : ∀ j, OrdM t.1 mark (t.2.1 j)) (x : Int) (j : Nat) {at_ : Int} (ha : mark ≤ at_) : seesF (one mark t x).1 at_ ((one mark t x).2.1 j) = seesF t.1 at_ (t.2.1 j) := by
  unfold one
  cases hl : chL t.1 t.2.1 x with
  | nil => rfl
  | cons u r =>
    unfold chL at hl
    by_cases hN : t.1.isN x = true
    · rw [if_pos hN] at hl
      obtain ⟨k, rfl, hk, ek, _⟩ := isN_head h hN
      rw [ek] at hl ⊢
      exact tkA_sees (mark := mark) h hk (pre := []) (vs := u :: r) (by simp) hl (ho k) j ha
    · rw [if_neg hN] at hl; cases hl
theorem one_neat {t : Tri} (h : Neat mark t) (x : Int) : Neat mark (one mark t x) := by
  obtain ⟨a1, a2, _⟩ := one_ok (mark := mark) h.ok h.chs x
  refine ⟨a1, a2, fun j => ?_, fun j => ?_⟩
  · exact OrdM.same ((h.ord j).sub (one_pre h.chs x j).sublist) fun v _ => one_words h.chs x v
  · refine Timely.same (fun v hv => h.tim j v ((one_pre h.chs x j).subset hv)) fun v _ => one_words h.chs x v
theorem fold_neat (l : List Int) {t : Tri} (h : Neat mark t) : Neat mark (l.foldl (one mark) t) ∧ ∀ j at_, mark ≤ at_ → seesF (l.foldl (one mark) t).1 at_ ((l.foldl (one mark) t).2.1 j) = seesF t.1 at_ (t.2.1 j) := by
  induction l generalizing t with
  | nil => exact ⟨h, fun _ _ _ => rfl⟩
  | cons x l ih =>
    obtain ⟨a, c⟩ := ih (one_neat h x)
    refine ⟨a, fun j at_ ha => (c j at_ ha).trans (one_sees h.chs h.ord x j ha)⟩
theorem nodes_mem {m j : Nat} (hj : j < m) : (j : Int) + 1 ∈ nodesL m := by
  unfold nodesL
  exact List.mem_map.2 ⟨j, List.mem_range.2 hj, rfl⟩

/-- A sweep of all nodes, then another: what it leaves; the second one takes nothing. -/
theorem sweep_twice {A : ASt} {ch : Nat → List Nat} {m : Nat} (h : Neat mark (A, ch, 0)) (hm : A.nN = m) : ∃ F : Tri, (nodesL m).foldl (one mark) (A, ch, 0) = F ∧ Neat mark F ∧ F.1.nV = A.nV ∧ F.1.nN = m ∧ (∀ st, (nodesL m).foldl (one mark) (F.1.at st, F.2.1, 0) = (F.1.at st, F.2.1, 0)) ∧
    ∀ j at_, mark ≤ at_ → seesF F.1 at_ (F.2.1 j) = seesF A at_ (ch j) := by
  obtain ⟨a, c⟩ := fold_neat (nodesL m) h
  obtain ⟨_, _, _, k4, k5⟩ := fold_ok (mark := mark) (nodesL m) (t := (A, ch, 0)) h.ok h.chs
  refine ⟨_, rfl, a, k4, k5.trans hm, fun st => ?_, c⟩
  refine fold_again (t := (((nodesL m).foldl (one mark) (A, ch, 0)).1.at st, ((nodesL m).foldl (one mark) (A, ch, 0)).2.1, 0)) (nodesL m) (a.chs.at st) fun j hj => ?_
  have hj' : j < A.nN := by rw [← k5]; exact hj
  exact fold_settled (mark := mark) (nodesL m) h.ok h.chs j hj' (.inr (nodes_mem (by rw [← hm]; exact hj')))
end Go.Proofs.YtbodobdllchmgaaDoor
namespace Go.Proofs.YtbodobdllchmgaaDoor
open Go Go.RowKit
set_option linter.unusedVariables false

variable {o : List Nat} {w0 w : World} {b ob : Nat} {A A' : ASt} {mark : Int} {nv : Value} {l : List Int} {ch ch' : Nat → List Nat} {S : Sw}

/-- The versions that a sweep's place names. -/
def PC.words : PC → List Nat
  | .node => []
  | .beg _ vs u r | .en _ vs u r | .beh _ vs u r => vs ++ u :: r
  | .tk _ vs => vs

/-- The store under a sweep, whatever is next. -/
theorem swat_store (hS : SwAt o w0 w b ob mark nv l S) : ∃ o', Has o' w w (.store b S.A) ∧ (∀ y ∈ o', y ∈ o ∨ w0.heap.size ≤ y) ∧ ∀ w' A' ch', (∀ v ∈ S.pc.words, bgn A' v = bgn S.A v ∧ enn A' v = enn S.A v) → Has o' w w' (.store b A') → SwAt o w0 w' b ob mark nv l ⟨A', ch', S.gone, S.rest, S.pc⟩ := by
  obtain ⟨A, ch, gn, rest, pc⟩ := S
  obtain ⟨cur, hcur, h⟩ := hS
  have keep : ∀ {A' : ASt} {vs : List Nat}, (∀ v ∈ vs, bgn A' v = bgn A v ∧ enn A' v = enn A v) → vs.map (bgn A') = vs.map (bgn A) ∧ vs.map (enn A') = vs.map (enn A) := fun {A'} {vs} hv =>
    ⟨List.map_congr_left fun v hm => (hv v hm).1, List.map_congr_left fun v hm => (hv v hm).2⟩
  cases pc with
  | node =>
    dsimp only at h
    obtain ⟨o', h1, p1, b1⟩ := sw_store h
    exact ⟨o', h1, p1, fun w' A' ch' _ h' => ⟨cur, hcur, b1 _ _ h'⟩⟩
  | beg i vs u r =>
    dsimp only at h
    obtain ⟨B, h⟩ := h
    obtain ⟨o', h1, p1, b1⟩ := swc_store h
    refine ⟨o', h1, p1, fun w' A' ch' hv h' => ⟨cur, hcur, B, ?_⟩⟩
    dsimp only at hv ⊢
    have k := keep (A' := A') (vs := vs) fun v hm => hv v (by show v ∈ vs ++ u :: r; simp [hm])
    rw [k.1, k.2]
    exact b1 _ _ h'
  | en i vs u r =>
    dsimp only at h
    obtain ⟨B, h⟩ := h
    obtain ⟨o', h1, p1, b1⟩ := swc_store h
    refine ⟨o', h1, p1, fun w' A' ch' hv h' => ⟨cur, hcur, B, ?_⟩⟩
    dsimp only at hv ⊢
    have k := keep (A' := A') (vs := vs) fun v hm => hv v (by show v ∈ vs ++ u :: r; simp [hm])
    have k2 := keep (A' := A') (vs := vs ++ [u]) fun v hm => hv v (by show v ∈ vs ++ u :: r; simp at hm ⊢; rcases hm with hm | hm <;> simp [hm])
    rw [k2.1, k.2]
    exact b1 _ _ h'
  | beh i vs u r =>
    dsimp only at h
    obtain ⟨B, h⟩ := h
    obtain ⟨o', h1, p1, b1⟩ := swc_store h
    refine ⟨o', h1, p1, fun w' A' ch' hv h' => ⟨cur, hcur, B, ?_⟩⟩
    dsimp only at hv ⊢
    have k2 := keep (A' := A') (vs := vs ++ [u]) fun v hm => hv v (by show v ∈ vs ++ u :: r; simp at hm ⊢; rcases hm with hm | hm <;> simp [hm])
    rw [k2.1, k2.2]
    exact b1 _ _ h'
  | tk i vs =>
    dsimp only at h
    obtain ⟨B, at_, h⟩ := h
    obtain ⟨o', h1, p1, b1⟩ := swc_store h
    refine ⟨o', h1, p1, fun w' A' ch' hv h' => ⟨cur, hcur, B, at_, ?_⟩⟩
    dsimp only at hv ⊢
    have k := keep (A' := A') (vs := vs) fun v hm => hv v hm
    rw [k.1, k.2]
    exact b1 _ _ h'
theorem swat_has (hS : SwAt o w0 w b ob mark nv l S) : ∃ P : Part, Has o w0 w P := by
  obtain ⟨A, ch, gn, rest, pc⟩ := S
  obtain ⟨cur, hcur, h⟩ := hS
  cases pc with
  | node => exact ⟨_, h⟩
  | beg i vs u r => obtain ⟨B, h⟩ := h; exact ⟨_, h⟩
  | en i vs u r => obtain ⟨B, h⟩ := h; exact ⟨_, h⟩
  | beh i vs u r => obtain ⟨B, h⟩ := h; exact ⟨_, h⟩
  | tk i vs => obtain ⟨B, at_, h⟩ := h; exact ⟨_, h⟩

theorem tkA_size (mark : Int) (A : ASt) (ch : Nat → List Nat) (i : Nat) (vs : List Nat) : (tkA mark A ch i vs).1.size = A.size := by
  have hcut : ∀ v post, (A.cutV v post).size = A.size := fun v post => by unfold ASt.cutV; rw [(goneAll_same _ _).1, A.size_set]
  rcases tkA_eq mark A ch i vs with ⟨h, _⟩ | ⟨s, _, _, h⟩ | ⟨_, _, _, h⟩
  · rw [h]
  · rw [h]; exact hcut _ _
  · rw [h]; exact hcut _ _

/-- What of a sweep stays so. -/
structure Inv (mark : Int) (m i c q : Nat) (W : Nat → Int → Nat) (S : Sw) : Prop where
  chs : Chs S.A S.ch
  ok : S.pc.ok S.A S.ch
  nN : S.A.nN = m
  size : S.A.size = 4000
  used : S.A.used + 3 * S.gone ≤ 600 + 3 * q
  nV : S.A.nV ≤ 180 + q
  rest : S.rest.length ≤ 6
  left : leftS S + i ≤ c
  low : ∀ j, m ≤ j → S.ch j = []
  ord : ∀ j, OrdM S.A mark (S.ch j)
  tim : ∀ j, Timely S.A (S.ch j)
  sees : ∀ j at_, mark ≤ at_ → at_ < 190 → seesF S.A at_ (S.ch j) = W j at_

theorem Inv.at {m i c q : Nat} {W : Nat → Int → Nat} (h : Inv mark m i c q W S) (st : Int) : Inv mark m i c q W (S.at st) := by
  refine ⟨h.chs.at st, ?_, h.nN, h.size, h.used, h.nV, h.rest, Nat.le_trans (Nat.add_le_add_right (Nat.add_le_add_left (costs_mono (A := S.A) (A' := S.A.at st) rfl (fun _ => List.prefix_refl _) _) _) _) h.left, h.low, fun j => OrdM.same (h.ord j) fun _ _ => ⟨rfl, rfl⟩, fun j => Timely.same (h.tim j) fun _ _ => ⟨rfl, rfl⟩, fun j at_ h1 h2 => by
    show seesF (S.A.at st) at_ (S.ch j) = _
    exact (sees_same (A := S.A) (A' := S.A.at st) fun v => ⟨rfl, rfl⟩).trans (h.sees j at_ h1 h2)⟩
  show S.pc.ok (S.A.at st) S.ch
  have := h.ok
  cases hpc : S.pc <;> (rw [hpc] at this; exact this)

theorem nxt_more (mark : Int) (S : Sw) : (nxt mark S).A.size = S.A.size ∧ (nxt mark S).rest.length ≤ S.rest.length := by
  obtain ⟨A, ch, gn, rest, pc⟩ := S
  cases pc with
  | node =>
    cases rest with
    | nil => exact ⟨rfl, Nat.le_refl _⟩
    | cons x rest =>
      obtain ⟨h1, h2, _⟩ := nxt_node (mark := mark) (S := ⟨A, ch, gn, x :: rest, .node⟩) rfl rfl
      rw [h1, h2]
      exact ⟨rfl, by simp⟩
  | beg i vs u r => exact ⟨rfl, Nat.le_refl _⟩
  | en i vs u r => exact ⟨rfl, Nat.le_refl _⟩
  | beh i vs u r => cases r <;> exact ⟨rfl, Nat.le_refl _⟩
  | tk i vs => exact ⟨tkA_size _ _ _ _ _, Nat.le_refl _⟩
theorem nxt_sees (hc : Chs S.A S.ch) (hp : S.pc.ok S.A S.ch) (ho : ∀ j, OrdM S.A mark (S.ch j)) (j : Nat) {at_ : Int} (ha : mark ≤ at_) : seesF (nxt mark S).A at_ ((nxt mark S).ch j) = seesF S.A at_ (S.ch j) := by
  obtain ⟨A, ch, gn, rest, pc⟩ := S
  cases pc with
  | node =>
    cases rest with
    | nil => rfl
    | cons x rest =>
      obtain ⟨_, h2, h3, _⟩ := nxt_node (mark := mark) (S := ⟨A, ch, gn, x :: rest, .node⟩) rfl rfl
      rw [h2, h3]
  | beg i vs u r => rfl
  | en i vs u r => rfl
  | beh i vs u r => cases r <;> rfl
  | tk i vs =>
    obtain ⟨hi, hv, pre, e⟩ := hp
    exact tkA_sees (mark := mark) hc hi hv e (ho i) j ha

theorem Inv.step {m i c q : Nat} {W : Nat → Int → Nat} (h : Inv mark m i c q W S) (hf : ¬ (S.pc = .node ∧ S.rest = [])) : Inv mark m (i + 1) c q W (nxt mark S) := by
  obtain ⟨a1, a2, a3, a4, a5, a6⟩ := nxt_ok (mark := mark) h.chs h.ok
  obtain ⟨b1, b2⟩ := nxt_more mark S
  have hl := nxt_leftS (mark := mark) h.chs h.ok hf
  have hu := nxt_used (mark := mark) h.chs h.ok
  refine ⟨a1, a2, a3.trans h.nN, b1.trans h.size, by have := h.used; omega, by have := h.nV; omega, Nat.le_trans b2 h.rest, by have := h.left; omega, fun j hj => ?_, fun j => ?_, fun j => ?_, fun j at_ h1 h2 => ?_⟩
  · have := a5 j
    rw [h.low j hj] at this
    exact List.prefix_nil.1 this
  · exact OrdM.same ((h.ord j).sub (a5 j).sublist) fun v _ => a6 v
  · exact Timely.same (fun v hv => h.tim j v ((a5 j).subset hv)) fun v _ => a6 v
  · rw [nxt_sees h.chs h.ok h.ord j h1]; exact h.sees j at_ h1 h2

theorem chs_le {i : Nat} (h : Chs A ch) (hi : i < A.nN) : ∀ v ∈ ch i, 1 ≤ v ∧ v ≤ A.nV := fun v hv => by
  obtain ⟨h1, h2⟩ := (h.link i hi).mem v hv
  have := ver_lt h2
  exact ⟨h1, by omega⟩
theorem chs_head {i : Nat} (h : Chs A ch) (hi : i < A.nN) : A.at_ (.head i) = some (hd (ch i)) ∧ (hd (ch i) = 0 ∨ A.isV (hd (ch i)) = true) ∧ hd (ch i) ≤ A.nV := by
  refine ⟨by rw [(some_of hi).1, h.head i hi], ?_, ?_⟩
  · cases hc : ch i with
    | nil => exact .inl rfl
    | cons v l =>
      right
      have := h.link i hi
      rw [hc] at this
      have e : hd (v :: l) = ((v - 1 : Nat) : Int) + 1 := by show (v : Int) = _; have := this.1; omega
      rw [e]
      exact is_ver this.2.1
  · cases hc : ch i with
    | nil => show (0 : Int) ≤ _; omega
    | cons v l =>
      have := (chs_le h hi v (by rw [hc]; simp)).2
      show (v : Int) ≤ _; omega

theorem costs_one {A A' : ASt} {ch ch' : Nat → List Nat} (hN : A'.nN = A.nN) (h : ∀ j, (ch' j).length ≤ (ch j).length + 1) (l : List Int) : costs A' ch' l ≤ costs A ch l + 3 * l.length := by
  induction l with
  | nil => exact Nat.le_refl _
  | cons x l ih =>
    have : cost A' ch' x ≤ cost A ch x + 3 := by
      unfold cost chL
      rw [isN_of hN]
      split
      · have := h (x - 1).toNat; omega
      · omega
    unfold costs
    rw [List.length_cons]; omega

/-- A newer version is pushed. -/
def pushA (A : ASt) (st : Int) (val : ByteArray) (bg : Int) (ch : Nat → List Nat) (k : Nat) : ASt := (A.addVer st val bg (hd (ch k))).set (.head k) ((A.nV : Int) + 1)
def pushC (A : ASt) (ch : Nat → List Nat) (k : Nat) : Nat → List Nat := updL ch k ((A.nV + 1) :: ch k)
theorem push_old (A : ASt) (st : Int) (val : ByteArray) (bg : Int) (ch : Nat → List Nat) (k : Nat) {v : Nat} (h1 : 1 ≤ v) (h2 : v ≤ A.nV) : bgn (pushA A st val bg ch k) v = bgn A v ∧ enn (pushA A st val bg ch k) v = enn A v := by
  have e : (pushA A st val bg ch k).V (v - 1) = A.V (v - 1) := by
    show (if v - 1 = A.nV then _ else A.V (v - 1)) = _
    rw [if_neg (by omega)]
  unfold bgn enn
  rw [e]; exact ⟨rfl, rfl⟩
theorem push_new (A : ASt) (st : Int) (val : ByteArray) (bg : Int) (ch : Nat → List Nat) (k : Nat) : bgn (pushA A st val bg ch k) (A.nV + 1) = bg ∧ enn (pushA A st val bg ch k) (A.nV + 1) = 1099511627776 := by
  have e : (pushA A st val bg ch k).V (A.nV + 1 - 1) = ⟨val, bg, 1099511627776, hd (ch k), false⟩ := by
    rw [Nat.add_sub_cancel]
    show (if A.nV = A.nV then _ else A.V A.nV) = _
    rw [if_pos rfl]
  unfold bgn enn
  rw [e]; exact ⟨rfl, rfl⟩

theorem Inv.push {m i c q : Nat} {W : Nat → Int → Nat} (h : Inv mark m i c q W S) {k : Nat} (hk : k < m) (st : Int) (val : ByteArray) (bg : Int) (hb0 : 190 ≤ bg) (hb1 : bg < 1099511627776) (hm : mark < 190) :
    Inv mark m i (c + 18) (q + 1) W ⟨pushA S.A st val bg S.ch k, pushC S.A S.ch k, S.gone, S.rest, S.pc⟩ := by
  have hkN : k < S.A.nN := by rw [h.nN]; exact hk
  obtain ⟨_, _, hle⟩ := chs_head h.chs hkN
  have hmem : ∀ j, ∀ v ∈ S.ch j, 1 ≤ v ∧ v ≤ S.A.nV := fun j v hv => by
    by_cases hj : j < m
    · exact chs_le h.chs (by rw [h.nN]; exact hj) v hv
    · rw [h.low j (by omega)] at hv; cases hv
  have hnew := addVer_new S.A st val bg (hd (S.ch k))
  have h1 := h.chs.more st val bg (hd (S.ch k)) hle
  have hVn : (S.A.addVer st val bg (hd (S.ch k))).V S.A.nV = ⟨val, bg, 1099511627776, hd (S.ch k), false⟩ := by
    show (if S.A.nV = S.A.nV then _ else _) = _
    rw [if_pos rfl]
  have h3 := h1.push (i := k) (v := S.A.nV + 1) hkN (by omega) (by rw [Nat.add_sub_cancel]; exact hnew.1) (by rw [Nat.add_sub_cancel, hVn]) (fun j hj hm => by have := (hmem j _ hm).2; omega)
  have hold : ∀ j, ∀ v ∈ S.ch j, bgn (pushA S.A st val bg S.ch k) v = bgn S.A v ∧ enn (pushA S.A st val bg S.ch k) v = enn S.A v := fun j v hv => push_old _ _ _ _ _ _ (hmem j v hv).1 (hmem j v hv).2
  obtain ⟨n1, n2⟩ := push_new S.A st val bg S.ch k
  have hu : (pushA S.A st val bg S.ch k).used = S.A.used + 3 := by unfold pushA; rw [ASt.used_set, addVer_used]
  have hcl : ∀ j, (pushC S.A S.ch k j).length ≤ (S.ch j).length + 1 := fun j => by
    unfold pushC updL
    split
    · rename_i e; rw [e]; simp
    · omega
  refine ⟨h3, ?_, h.nN, h.size, by show (pushA S.A st val bg S.ch k).used + 3 * S.gone ≤ _; have := h.used; omega, by show S.A.nV + 1 ≤ _; have := h.nV; omega, h.rest, ?_, fun j hj => ?_, fun j => ?_, fun j => ?_, fun j at_ g1 g2 => ?_⟩
  · have hp := h.ok
    show S.pc.ok (pushA S.A st val bg S.ch k) (pushC S.A S.ch k)
    have mv : ∀ {a : Nat} {y : List Nat}, (∃ pre, S.ch a = pre ++ y) → ∃ pre, pushC S.A S.ch k a = pre ++ y := fun {a y} hh => by
      obtain ⟨pre, e⟩ := hh
      unfold pushC updL
      split
      · rename_i ea; subst ea; exact ⟨(S.A.nV + 1) :: pre, by rw [e]; rfl⟩
      · exact ⟨pre, e⟩
    cases hpc : S.pc with
    | node => trivial
    | beg a vs u r => rw [hpc] at hp; exact ⟨hp.1, mv hp.2⟩
    | en a vs u r => rw [hpc] at hp; exact ⟨hp.1, mv hp.2⟩
    | beh a vs u r => rw [hpc] at hp; exact ⟨hp.1, mv hp.2⟩
    | tk a vs => rw [hpc] at hp; exact ⟨hp.1, hp.2.1, mv hp.2.2⟩
  · have h5 := costs_one (A := S.A) (A' := pushA S.A st val bg S.ch k) rfl hcl S.rest
    have h6 := h.left
    have h7 := h.rest
    show S.pc.left + costs (pushA S.A st val bg S.ch k) (pushC S.A S.ch k) S.rest + i ≤ c + 18
    have h8 : S.pc.left + costs S.A S.ch S.rest + i ≤ c := h6
    omega
  · show pushC S.A S.ch k j = []
    unfold pushC updL
    rw [if_neg (by omega)]; exact h.low j hj
  · show OrdM (pushA S.A st val bg S.ch k) mark (pushC S.A S.ch k j)
    have ho := OrdM.same (h.ord j) (hold j)
    unfold pushC updL
    split
    · rename_i e
      subst e
      refine List.pairwise_cons.2 ⟨fun y hy hx => ?_, ho⟩
      rw [n1] at hx; omega
    · exact ho
  · show Timely (pushA S.A st val bg S.ch k) (pushC S.A S.ch k j)
    have ht := Timely.same (h.tim j) (hold j)
    unfold pushC updL
    split
    · rename_i e
      subst e
      intro v hv
      rcases List.mem_cons.1 hv with rfl | hv
      · rw [n1, n2]; omega
      · exact ht v hv
    · exact ht
  · show seesF (pushA S.A st val bg S.ch k) at_ (pushC S.A S.ch k j) = _
    have hs := (sees_on (at_ := at_) (hold j)).trans (h.sees j at_ g1 g2)
    unfold pushC updL
    split
    · rename_i e
      subst e
      show (if seenB at_ (bgn _ (S.A.nV + 1)) (enn _ (S.A.nV + 1)) = true then _ else _) = _
      rw [n1, n2]
      have : seenB at_ bg 1099511627776 = false := by unfold seenB; simp; omega
      rw [this, if_neg (by simp)]; exact hs
    · exact hs
theorem Inv.credit {m i c c' q : Nat} {W : Nat → Int → Nat} (h : Inv mark m i c q W S) (hc : c ≤ c') : Inv mark m i c' q W S :=
  ⟨h.chs, h.ok, h.nN, h.size, h.used, h.nV, h.rest, Nat.le_trans h.left hc, h.low, h.ord, h.tim, h.sees⟩
theorem begins_time {q : Int} (h0 : 0 ≤ q) (h1 : q < 1099511627776) : wBegins q = true := by
  unfold wBegins wOk; simp; omega
theorem nxOk_more {A : ASt} {st : Int} {val : ByteArray} {bg nx n : Int} (h : A.nxOk n) : (A.step.addVer st val bg nx).nxOk n := by
  rcases h with h | ⟨j, e, hj⟩
  · exact .inl h
  · refine .inr ⟨j, e, ?_⟩
    have hlt := ver_lt hj
    unfold ASt.ver at hj ⊢
    have e2 : (A.step.addVer st val bg nx).V j = A.V j := by show (if j = A.nV then _ else A.V j) = _; rw [if_neg (by omega)]
    rw [e2]
    simp only [Bool.and_eq_true, decide_eq_true_eq] at hj ⊢
    exact ⟨by show j < A.nV + 1; omega, hj.2⟩
theorem words_in (h : S.pc.ok S.A S.ch) (hc : Chs S.A S.ch) : ∀ v ∈ S.pc.words, 1 ≤ v ∧ v ≤ S.A.nV := by
  intro v hv
  have key : ∀ {a : Nat} {y : List Nat}, a < S.A.nN → (∃ pre, S.ch a = pre ++ y) → v ∈ y → 1 ≤ v ∧ v ≤ S.A.nV := fun {a y} ha hh hm => by
    obtain ⟨pre, e⟩ := hh
    exact chs_le hc ha v (by rw [e]; simp [hm])
  cases hpc : S.pc with
  | node => rw [hpc] at hv; cases hv
  | beg a vs u r => rw [hpc] at hv h; exact key h.1 h.2 hv
  | en a vs u r => rw [hpc] at hv h; exact key h.1 h.2 hv
  | beh a vs u r => rw [hpc] at hv h; exact key h.1 h.2 hv
  | tk a vs => rw [hpc] at hv h; exact key h.1 h.2.2 hv
end Go.Proofs.YtbodobdllchmgaaDoor
namespace Go.Proofs.YtbodobdllchmgaaDoor
open Go Go.RowKit
set_option linter.unusedVariables false

theorem seesF_atB (A : ASt) (s at_ : Int) (l : List Nat) : seesF (A.at s) at_ l = seesF A at_ l := sees_same fun v => ⟨rfl, rfl⟩
def mn (i : Nat) : Nat := if i < 200 then i else 200
theorem mn_le (i : Nat) : mn i ≤ 200 ∧ mn i ≤ mn (i + 1) := by unfold mn; split <;> split <;> omega

set_option maxHeartbeats 16000000 in
set_option maxRecDepth 100000 in
theorem between_law (w : World) (hT : TabAt w) (p : Option Addr) (n cap : Nat) (f : Nat → IV) (hin : GapIn w p n f) (hn : n ≤ 9000000000000000000) (mark : Int) (pz : Option Addr) (nz cz : Nat) (z : Nat → Int) (hiz : InRow w pz nz z) (hnz : nz ≤ 140737488351232 / 8) :
    Calls Tryd.prog 8 #[.slice p n cap, .int .i64 mark, .slice pz nz cz] w fun e w' => e = .returned (.bool true) ∧ Kept [] w w' := by
  have HT := Lib.hid hT
  have HIN := Lib.hid hin
  obtain ⟨i0, hi0, hz0, hz1, hz2⟩ := info_parts info_int
  obtain ⟨j0, hj0, hy0, hy1, hy2⟩ := info_parts info_chain
  have HIZ := Lib.hid hiz
  clear hT hin hiz
  go_enter Tryd.func8, Tryd.ntmps8
  go_wp2_with fail
  refine (shown_calls w HT.out).mono ?_
  rintro e w1 ⟨rfl, hk⟩
  have HK1 := Lib.hid hk
  clear hk
  go_wp2_with fail
  go_loopg [8, 9] 6 (fun k cv iv wr => ∃ (i : Nat) (F : Nat → OC), i ≤ n ∧ i ≤ 6 ∧ k = 6 - i ∧ iv = .int .i64 i ∧ (∀ j, j < i → (F j).good) ∧ Has [] w1 wr ((Part.rows 50 2 cv i (ocRow F)).sep (.ocs i F)))
  case atStart => exact ⟨0, fun _ => ⟨none, 0, 0, none, 0, 0, [], []⟩, Nat.zero_le _, Nat.zero_le _, rfl, rfl, fun j hj => absurd hj (Nat.not_lt_zero j), (Has.rowsNil _ _ _ _).beside (Has.nothing _)⟩
  case round =>
    obtain ⟨i, F, hi, hi10, hk, rfl, hgood, hX⟩ := hrel
    have HKK := Lib.hid hk
    have HG := Lib.hid hgood
    have HX := Lib.hid hX
    clear hk hgood hX
    by_cases hlt : i < n ∧ i < 6
    · obtain ⟨hin2, hi2⟩ := hlt
      have d1 : decide ((i : Int) < (n : Int)) = true := by simp; omega
      have d1' : decide (i < n) = true := by simp; omega
      have d2 : decide ((i : Int) < 6) = true := by simp; omega
      have d2' : decide (i < 6) = true := by simp; omega
      have q1 : 0 ≤ (i : Int) ∧ (i : Int) < (n : Int) := by omega
      obtain ⟨g, off, rfl, hcc⟩ := HIN.out (by omega)
      obtain ⟨k1, r1, r2, r3⟩ := hcc i hin2
      have kk := HK1.out.tr HX.out.keeps
      have c1 := kk.cell k1 (by simp)
      have HOW := Lib.hid (ordered_walk _ (f i).p (f i).n (f i).c (f i).z (inrow_kept r1 kk) r2 r3)
      clear hcc k1 r1 r2 r3 kk
      go_wp2_with fail
      refine HOW.out.mono ?_
      rintro e w2 ⟨vb, ve, bs, es, t, rfl, ho, ht, hb, hY⟩
      obtain ⟨_, y1, _⟩ := hY.left
      obtain ⟨_, y2, _⟩ := hY.right
      obtain ⟨pb, kb, rfl, _⟩ := u64_ints y1
      obtain ⟨pe, ke, rfl, _⟩ := u64_ints y2
      have HXX := Lib.hid (ocs_beside (x := ⟨pb, bs.length, kb, pe, es.length, ke, bs, es⟩) HX.out hY)
      have HG2 := Lib.hid (updO_good (x := ⟨pb, bs.length, kb, pe, es.length, ke, bs, es⟩) HG.out ⟨⟨t, ho, ht⟩, hb⟩)
      obtain ⟨o3, h3, _, _, b3⟩ := HXX.out.left
      obtain ⟨rp, rc, rfl⟩ := h3.rowsSlice
      have HROW := Lib.hid (h3.rowsOwn.alloc (.cells #[.slice pb bs.length kb, .slice pe es.length ke] 50))
      have HB3 := Lib.hid b3
      have HX3 := Lib.hid h3
      generalize bs.length = lb at *
      generalize es.length = le at *
      clear hY y1 y2 HX HXX HG h3 b3 HOW c1 ho ht hb
      go_wp2_with (at_builtin; refine wpList_append_new rfl (.tmp 46) (.tmp 52) 36 rfl 50 j0 (.agg #[.slice none 0 0, .slice none 0 0]) 2 48 Tryd.underlying36 hj0 hy0 hy1 hy2 rfl (by decide) _ _ _ rfl HROW.out ⟨_, 0, none⟩ 1 1 [.slice pb lb kb, .slice pe le ke] rfl rfl (cells_any _ _ #[.slice pb lb kb, .slice pe le ke] _ (by simp)) (by simp [Value.oneCell']) (by simp only [maxLen]; omega) (by omega) ?_)
      intro v' w5 happ
      have hX := HB3.out _ _ (Has.rowsMore _ HX3.out happ)
      rw [show (fun d => if d = i then [Value.slice pb lb kb, Value.slice pe le ke] else ocRow F d) = ocRow (updO F i ⟨pb, lb, kb, pe, le, ke, bs, es⟩) from ocRow_upd F i ⟨pb, lb, kb, pe, le, ke, bs, es⟩] at hX
      have HX5 := Lib.hid hX
      clear hX happ HROW HB3 HX3
      go_wp2_with fail
      go_roundg (6 - (i + 1))
      case measure => rw [HKK.out]; omega
      case rel => exact ⟨i + 1, _, by omega, by omega, rfl, by go_num, HG2.out, HX5.out⟩
    · have HST := Lib.hid (show (i < n ∧ decide ((i : Int) < (n : Int)) = true ∧ decide (i < n) = true ∧ decide ((i : Int) < 6) = false ∧ decide (i < 6) = false) ∨ (decide ((i : Int) < (n : Int)) = false ∧ decide (i < n) = false) from by
        by_cases h1 : i < n
        · left; simp; omega
        · right; simp; omega)
      obtain ⟨_, h3, _⟩ := HX.out.left
      obtain ⟨rp, rc, rfl⟩ := h3.rowsSlice
      obtain ⟨hci, hln⟩ := chains_made HX.out HG.out
      have HLD := Lib.hid (laid_walk wr (HT.out.kept (HK1.out.tr HX.out.keeps) (by simp)) rp i rc (fun j => (F j).cv) hci (by omega))
      have HLN := Lib.hid hln
      have HK3 := Lib.hid (HK1.out.tr HX.out.keeps)
      clear h3 hci hln HX hlt HK1 HKK HIN hj0 hy0 hy1 hy2
      obtain ⟨w3, hw3⟩ : ∃ x, x = wr := ⟨_, rfl⟩
      subst hw3
      rcases HST.out with ⟨_, x1, x2, x3, x4⟩ | ⟨x1, x2⟩
      all_goals (
        clear HST
        go_wp2_with fail
        refine HLD.out.mono ?_
        rintro e w4 ⟨b, ab, rb, nv, rfl, hX⟩
        obtain ⟨A, ch, rs, m, hm, hab, hL, hV, hX⟩ := hX
        obtain rfl : m = i := by rw [hm, if_pos (by omega)]
        have HL := Lib.hid hL
        have HV := Lib.hid hV
        have hX2 : Has [] w3 w4 ((Part.store b A).sep (.ints nv (nodesL m))) := hX.weaken (Part.Imp.sep (Part.Imp.fst _ _) (Part.Imp.refl _))
        obtain ⟨_, h1, _⟩ := hX.right
        obtain ⟨np, nc, rfl⟩ := ap_ints h1
        rw [nodesL_len] at hX2
        rw [nodesL_len]
        have HX := Lib.hid (hX2.beside (Has.nilInts _))
        have HOK := Lib.hid (pair_ok hX)
        clear hm hab hL hV hX hX2 h1 HLD x1 x2
        by_cases hm0 : mark < 0
        · have d1 : decide (mark < 0) = true := by simpa using hm0
          have HKE := Lib.hid (HK3.out.tr HX.out.keeps)
          clear HX
          go_wp2_with fail
          go_ret
          exact ⟨rfl, HKE.out⟩
        · by_cases hm2 : 150 < mark
          · have d1 : decide (mark < 0) = false := by simpa using hm0
            have d2 : decide (mark > 150) = true := by simpa using hm2
            have d2' : decide (150 < mark) = true := by simpa using hm2
            have HKE := Lib.hid (HK3.out.tr HX.out.keeps)
            clear HX
            go_wp2_with fail
            go_ret
            exact ⟨rfl, HKE.out⟩
          · have d1 : decide (mark < 0) = false := by simpa using hm0
            have d2 : decide (mark > 150) = false := by simpa using hm2
            have d2' : decide (150 < mark) = false := by simpa using hm2
            by_cases hmz : m = 0
            · have HMZ := Lib.hid hmz
              have d3 : decide ((m : Int) = 0) = true := by simp; omega
              have d3' : ((m : Int) == 0) = true := by simp; omega
              have HKE := Lib.hid (HK3.out.tr HX.out.keeps)
              clear HX hmz
              go_wp2_with fail
              go_ret
              exact ⟨rfl, HKE.out⟩
            have d3 : decide ((m : Int) = 0) = false := by simp; omega
            have d3' : ((m : Int) == 0) = false := by simp; omega
            have HNT := Lib.hid (show Neat mark (A, ch, 0) from ⟨HOK.out, HL.out.chs, fun j => (laid_ord HL.out HG.out HLN.out mark j).1, fun j => (laid_ord HL.out HG.out HLN.out mark j).2⟩)
            have HNN := Lib.hid HL.out.nN
            have hm9 : m ≤ 9223372036854775807 := by omega
            have hU0 := HL.out.used
            have hsz0 := HL.out.size
            have hlow0 := HL.out.low
            have HU0 := Lib.hid hU0
            have HSZ0 := Lib.hid hsz0
            have HLOW := Lib.hid hlow0
            obtain ⟨qn, hqn⟩ : ∃ qn : Nat, (qn : Int) = 190 - mark := ⟨(190 - mark).toNat, by omega⟩
            have HQ := Lib.hid hqn
            have hq0 : qn ≤ 190 := by omega
            have hqm : ∀ j, j ≤ m → qn * j ≤ 190 * 6 := fun j hj => Nat.mul_le_mul hq0 (by omega)
            clear HL HLN HG hqn hU0 hsz0 hlow0
            go_wp2_with fail
            go_loopg [15, 16] m (fun k wv iv wx => ∃ (j K : Nat) (s : Int), j ≤ m ∧ k = m - j ∧ iv = .int .i64 j ∧ K = qn * j ∧ Has [] w3 wx (((Part.store b (A.at s)).sep (.ints (.slice np m nc) (nodesL m))).sep (.ints wv (wasL A ch mark qn K))))
            case atStart => exact ⟨0, 0, A.steps, Nat.zero_le _, rfl, rfl, rfl, HX.out⟩
            case round =>
              clear HX
              obtain ⟨j, K0, s, hj, hk, rfl, hK, hX⟩ := hrel
              have HKK := Lib.hid hk
              have HX := Lib.hid hX
              have HK0 := Lib.hid hK
              clear hk hX hK
              by_cases hlt : j < m
              · have g1 : decide ((j : Int) < (m : Int)) = true := by simp; omega
                have g1' : decide (j < m) = true := by simp; omega
                go_wp2_with fail
                go_loopg [15, 17] qn (fun k wv av wx => ∃ (d K : Nat) (s at_ : Int), d ≤ qn ∧ k = qn - d ∧ av = .int .i64 at_ ∧ at_ = mark + (d : Int) ∧ K = qn * j + d ∧ Has [] w3 wx (((Part.store b (A.at s)).sep (.ints (.slice np m nc) (nodesL m))).sep (.ints wv (wasL A ch mark qn K))))
                case atStart => exact ⟨0, K0, s, mark, Nat.zero_le _, rfl, rfl, by simp, HK0.out, HX.out⟩
                case round =>
                  clear HX HK0
                  obtain ⟨d, K, s, at_, hd, hk, rfl, hat, hK, hX⟩ := hrel
                  have HKD := Lib.hid hk
                  have HX := Lib.hid hX
                  have HAT := Lib.hid hat
                  have HKQ := Lib.hid hK
                  have hK9 : K ≤ 2000 := by have := hqm j hj; omega
                  have ha0 : 0 ≤ at_ ∧ at_ ≤ 400 := by omega
                  clear hk hX hat hK
                  by_cases hdl : d < qn
                  · have g2 : decide (at_ < 190) = true := by have h1 := HQ.out; have h2 := HAT.out; simp; omega
                    have q1 : 0 ≤ (j : Int) ∧ (j : Int) < (m : Int) := by omega
                    obtain ⟨gn, rfl, cn⟩ := last_cell HX.out.fst (nodesL_len m).symm (k := j) (by rw [nodesL_len]; exact hlt)
                    rw [nodes_get hlt] at cn
                    have HSE := Lib.hid (sees_walk HX.out.assoc (HNT.out.chs.at s) ((j : Int) + 1) at_ (by omega) (by omega) (by
                      rw [chL_node (by show j < A.nN; rw [HNN.out]; exact hlt)]; exact HNT.out.tim j) (by show A.nV ≤ _; have := HV.out; omega))
                    have HSN := Lib.hid (show wasL A ch mark qn (K + 1) = wasL A ch mark qn K ++ [((seesF (A.at s) at_ (chL (A.at s) ch ((j : Int) + 1)) : Nat) : Int)] from by
                      rw [chL_node (by show j < A.nN; rw [HNN.out]; exact hlt), seesF_atB, HKQ.out, HAT.out, Nat.add_assoc]; exact wasL_succ hdl)
                    generalize seesF (A.at s) at_ (chL (A.at s) ch ((j : Int) + 1)) = sv at *
                    clear HX
                    go_wp2_with fail
                    refine HSE.out.mono ?_
                    rintro e w5 ⟨rfl, s5, hX⟩
                    have hX' : Has [] w3 w5 (((Part.store b (A.at s5)).sep (.ints (.slice (some ⟨gn, 0, none⟩) m nc) (nodesL m))).sep (.ints _ (wasL A ch mark qn K))) := hX.assoc'
                    have HX := Lib.hid hX'
                    obtain ⟨_, h5, _⟩ := hX'.right
                    obtain ⟨vp, vc, hwv⟩ := ap_ints h5
                    have HROW := Lib.hid (ap_row (h5.alloc (.cells #[.int .i64 (sv : Nat)] 3)))
                    rw [wasL_len] at HROW hwv
                    subst hwv
                    clear hX hX' h5 HSE cn
                    go_wp2_with (at_builtin; refine wpList_append_new rfl (.tmp 92) (.tmp 100) 22 rfl 3 i0 (.int .i64 0) 1 8 Tryd.underlying22 hi0 hz0 hz1 hz2 rfl (by decide) _ _ _ rfl HROW.out ⟨_, 0, none⟩ 1 1 [.int .i64 (sv : Nat)] rfl rfl (cell_one _ _ _ _ (by simp)) (by intro u hu; simp at hu; subst hu; rfl) (by simp only [maxLen]; omega) (by omega) ?_)
                    intro v' w6 happ
                    have hX := ints_append _ HX.out (by rw [wasL_len]; exact happ)
                    rw [← HSN.out] at hX
                    have HX6 := Lib.hid hX
                    have e1 : IntKind.i64.wrap (at_ + 1) = at_ + 1 := by unfold IntKind.wrap; simp [IntKind.bits, IntKind.signed]; omega
                    clear hX happ HX HROW
                    go_wp2_with fail
                    go_roundg (qn - (d + 1))
                    case measure => rw [HKD.out]; omega
                    case rel => exact ⟨d + 1, K + 1, s5, at_ + 1, by omega, rfl, rfl, by have := HAT.out; omega, by have := HKQ.out; omega, HX6.out⟩
                  · have g2 : decide (at_ < 190) = false := by have h1 := HQ.out; have h2 := HAT.out; simp; omega
                    have HD := Lib.hid (show d = qn by omega)
                    go_wp2_with fail
                    go_roundg (m - (j + 1))
                    case measure => rw [HKK.out]; omega
                    case rel => exact ⟨j + 1, K, s, by omega, rfl, by go_num, by have h1 := HKQ.out; have h2 := HD.out; rw [Nat.mul_succ]; omega, HX.out⟩
              · have g1 : decide ((j : Int) < (m : Int)) = false := by simp; omega
                have g1' : decide (j < m) = false := by simp; omega
                obtain rfl : j = m := by omega
                obtain ⟨_, h5, _⟩ := HX.out.right
                obtain ⟨vp, vc, hwv⟩ := ap_ints h5
                rw [wasL_len] at hwv
                subst hwv
                have hin0 := last_in HX.out.fst (nodesL_len j).symm
                have HBG := Lib.hid (begin_sweep wr (some ⟨b, 0, none⟩) np j nc (fun k => (nodesL j).getD k 0) hin0 (by omega) mark)
                clear hin0 h5
                go_wp2_with fail
                refine HBG.out.mono ?_
                rintro e w5 ⟨ob, nv2, rfl, hX⟩
                rw [map_getDs _ j (nodesL_len j).symm] at hX
                have hX5 : Has [] w3 w5 ((Part.sw b ob (A.at s) nv2 mark (fNode ob) 0 false nv2 (nodesL j)).sep ((Part.ints (.slice np j nc) (nodesL j)).sep (.ints (.slice vp K0 vc) (wasL A ch mark qn K0)))) := op_ahead (HX.out.assoc.beside hX)
                obtain ⟨os, hs, ps, _, bs⟩ := hX5.left
                have hcf := costs_few (A := A.at s) (ch := ch) (HNT.out.chs.at s) (nodesL j)
                rw [nodesL_len] at hcf
                have hcf2 : (3 * (A.at s).nV + 2) * j ≤ 542 * 6 := Nat.mul_le_mul (by show 3 * A.nV + 2 ≤ _; have := HV.out; omega) (by omega)
                have HI0 := Lib.hid (show Inv mark j 0 (3300 + 18 * mn 0) 0 (fun k at_ => seesF A at_ (ch k)) ⟨A.at s, ch, 0, nodesL j, .node⟩ from
                  ⟨HNT.out.chs.at s, trivial, HNN.out, HSZ0.out, by show A.used + 3 * 0 ≤ _; have h1 := HU0.out; have h2 := HV.out; omega, by show A.nV ≤ _; have := HV.out; omega, by show (nodesL j).length ≤ 6; rw [nodesL_len]; omega,
                    by show 0 + costs (A.at s) ch (nodesL j) + 0 ≤ _; omega, HLOW.out, HNT.out.ord, HNT.out.tim, fun k at_ _ _ => seesF_atB _ _ _ _⟩)
                have HS0 := Lib.hid (show SwAt os w5 w5 b ob mark nv2 (nodesL j) ⟨A.at s, ch, 0, nodesL j, .node⟩ from ⟨nv2, cur_begins hs, hs⟩)
                have HBS := Lib.hid bs
                have HK5 := Lib.hid (HK3.out.tr hX5.keeps)
                have HTO := Lib.hid (show 0 ∉ os from tab_out (HT.out.kept HK3.out (by simp)) tab_nil ps)
                clear hX hX5 hs ps bs hcf hcf2 HX HBG
                go_wp2_with fail
                go_loopg [19, 20] 100000 (fun k pv iv wx => ∃ (i q : Nat) (S : Sw), k = 100000 - i ∧ pv = .int .i64 q ∧ iv = .int .i64 i ∧ q ≤ 200 ∧ q ≤ i ∧ Inv mark j i (3300 + 18 * mn i) q (fun k at_ => seesF A at_ (ch k)) S ∧ SwAt os w5 wx b ob mark nv2 (nodesL j) S)
                case atStart => exact ⟨0, 0, _, rfl, rfl, rfl, Nat.zero_le _, Nat.le_refl _, HI0.out, HS0.out⟩
                case round =>
                  clear HI0 HS0
                  obtain ⟨i, q, S, hk, rfl, rfl, hq2, hqi, hI, hS⟩ := hrel
                  have HKI := Lib.hid hk
                  have HI := Lib.hid hI
                  have HS := Lib.hid hS
                  have hi69 : i ≤ 6900 := by have h1 := hI.left; have h2 := (mn_le i).1; omega
                  have g1 : decide ((i : Int) < 100000) = true := by simp; omega
                  clear hk hI hS
                  by_cases hfin : S.pc = .node ∧ S.rest = []
                  · have HS2 := Lib.hid (step_last HS.out hfin.1 hfin.2)
                    have hqd : decide ((q : Int) ≤ 200) = true := by simp; omega
                    clear hfin HS
                    go_wp2_with fail
                    refine HS2.out.mono ?_
                    rintro e w6 ⟨rfl, cur1, hD⟩
                    have hX6 := HBS.out _ _ hD
                    have HX8 := Lib.hid (show Has [] w3 w6 ((Part.store b (S.A.at S.A.steps)).sep ((Part.ints (.slice np j nc) (nodesL j)).sep (.ints (.slice vp K0 vc) (wasL A ch mark qn K0)))) from hX6.weaken (Part.Imp.sep (Part.Imp.fst _ _) (Part.Imp.refl _)))
                    have HGN := Lib.hid (gone_at hD)
                    clear hX6 hD HS2 HBS
                    go_wp2_with fail
                    refine HGN.out.mono ?_
                    rintro e w9 ⟨rfl, rfl⟩
                    clear HGN
                    go_wp2_with fail
                    go_loopg [31, 32] j (fun k kv iv wx => ∃ (a K : Nat) (s : Int), a ≤ j ∧ k = j - a ∧ K = qn * a ∧ kv = .int .i64 (K : Int) ∧ iv = .int .i64 a ∧ Has [] w3 wx ((Part.store b (S.A.at s)).sep ((Part.ints (.slice np j nc) (nodesL j)).sep (.ints (.slice vp K0 vc) (wasL A ch mark qn K0)))))
                    case atStart => exact ⟨0, 0, _, Nat.zero_le _, rfl, rfl, rfl, rfl, HX8.out⟩
                    case round =>
                      clear HX8
                      obtain ⟨a, K1, s1, ha, hk, hK, rfl, rfl, hX⟩ := hrel
                      have HKA := Lib.hid hk
                      have HX := Lib.hid hX
                      have HK1 := Lib.hid hK
                      clear hk hX hK
                      by_cases hlt : a < j
                      · have g2 : decide ((a : Int) < (j : Int)) = true := by simp; omega
                        have g2' : decide (a < j) = true := by simp; omega
                        go_wp2_with fail
                        go_loopg [31, 33] qn (fun k kv av wx => ∃ (d K : Nat) (s at_ : Int), d ≤ qn ∧ k = qn - d ∧ kv = .int .i64 (K : Int) ∧ K = qn * a + d ∧ av = .int .i64 at_ ∧ at_ = mark + (d : Int) ∧ Has [] w3 wx ((Part.store b (S.A.at s)).sep ((Part.ints (.slice np j nc) (nodesL j)).sep (.ints (.slice vp K0 vc) (wasL A ch mark qn K0)))))
                        case atStart => exact ⟨0, K1, s1, mark, Nat.zero_le _, rfl, rfl, HK1.out, rfl, by simp, HX.out⟩
                        case round =>
                          clear HX HK1
                          obtain ⟨d, K, s2, at_, hd, hk, rfl, hK, rfl, hat, hX⟩ := hrel
                          have HKD := Lib.hid hk
                          have HX := Lib.hid hX
                          have HAT := Lib.hid hat
                          have HKQ := Lib.hid hK
                          have ha0 : 0 ≤ at_ ∧ at_ ≤ 400 := by omega
                          have hK9 : K ≤ 2000 := by have := hqm a ha; omega
                          clear hk hX hat hK
                          by_cases hdl : d < qn
                          · have g3 : decide (at_ < 190) = true := by have h1 := HQ.out; have h2 := HAT.out; simp; omega
                            have q1 : 0 ≤ (a : Int) ∧ (a : Int) < (j : Int) := by omega
                            have hKK0 : K < K0 := by
                              have h1 : qn * (a + 1) ≤ qn * j := Nat.mul_le_mul_left _ hlt
                              rw [Nat.mul_succ] at h1
                              have h2 := HKQ.out
                              have h3 := HK0.out
                              omega
                            have q2 : 0 ≤ (K : Int) ∧ (K : Int) < (K0 : Int) := by omega
                            obtain ⟨gn, rfl, cn⟩ := last_cell HX.out.assoc'.fst (nodesL_len j).symm (k := a) (by rw [nodesL_len]; exact hlt)
                            rw [nodes_get hlt] at cn
                            have hch : chL (S.A.at s2) S.ch ((a : Int) + 1) = S.ch a := chL_node (by show a < S.A.nN; rw [HI.out.nN]; exact hlt)
                            have hsv : ((seesF (S.A.at s2) at_ (chL (S.A.at s2) S.ch ((a : Int) + 1)) : Nat) : Int) = (wasL A ch mark qn K0).getD K 0 := by
                              rw [hch, seesF_atB, HI.out.sees a at_ (by have := HAT.out; omega) (by have h1 := HQ.out; have h2 := HAT.out; omega), HKQ.out, wasL_get hdl (by have := HKQ.out; omega), HAT.out]
                            have HSE := Lib.hid (sees_walk HX.out (HI.out.chs.at s2) ((a : Int) + 1) at_ (by omega) (by omega) (by
                              rw [hch]; exact HI.out.tim a) (by show S.A.nV ≤ _; have := HI.out.nV; omega))
                            rw [hsv] at HSE
                            have HWN := Lib.hid (wasL_len A ch mark qn K0)
                            generalize wasL A ch mark qn K0 = wl at *
                            obtain ⟨sv, hsv2⟩ : ∃ sv, wl.getD K 0 = sv := ⟨_, rfl⟩
                            rw [hsv2] at HSE
                            have HSV := Lib.hid hsv2
                            clear HX hsv hsv2 hch
                            go_wp2_with fail
                            refine HSE.out.mono ?_
                            rintro e w10 ⟨rfl, s5, hX⟩
                            have HX := Lib.hid (show Has [] w3 w10 ((Part.store b (S.A.at s5)).sep ((Part.ints (.slice (some ⟨gn, 0, none⟩) j nc) (nodesL j)).sep (.ints (.slice vp K0 vc) wl))) from hX)
                            obtain ⟨gv, rfl, cv⟩ := last_cell hX.assoc' HWN.out.symm (k := K) (by rw [HWN.out]; exact hKK0)
                            rw [HSV.out] at cv
                            have e1 : IntKind.i64.wrap (at_ + 1) = at_ + 1 := by unfold IntKind.wrap; simp [IntKind.bits, IntKind.signed]; omega
                            have e2 : IntKind.i64.wrap ((K : Int) + 1) = ((K + 1 : Nat) : Int) := by unfold IntKind.wrap; simp [IntKind.bits, IntKind.signed]; omega
                            clear hX HSE cn
                            go_wp2_with fail
                            go_roundg (qn - (d + 1))
                            case measure => rw [HKD.out]; omega
                            case rel => exact ⟨d + 1, K + 1, s5, at_ + 1, by omega, rfl, rfl, by have := HKQ.out; omega, rfl, by have := HAT.out; omega, HX.out⟩
                          · have g3 : decide (at_ < 190) = false := by have h1 := HQ.out; have h2 := HAT.out; simp; omega
                            have HD := Lib.hid (show d = qn by omega)
                            go_wp2_with fail
                            go_roundg (j - (a + 1))
                            case measure => rw [HKA.out]; omega
                            case rel => exact ⟨a + 1, K, s2, by omega, rfl, by have h1 := HKQ.out; have h2 := HD.out; rw [Nat.mul_succ]; omega, rfl, by go_num, HX.out⟩
                      · have g2 : decide ((a : Int) < (j : Int)) = false := by simp; omega
                        have g2' : decide (a < j) = false := by simp; omega
                        have HKE := Lib.hid (HK3.out.tr HX.out.keeps)
                        clear HX
                        go_wp2_with fail
                        go_ret
                        exact ⟨rfl, HKE.out⟩
                  · have HST2 := Lib.hid (step_any HS.out HI.out.chs HI.out.ok (by have := HI.out.nV; omega) (by have := HI.out.used; omega) hfin)
                    have HI1 := Lib.hid (fun st => (HI.out.step hfin).at st)
                    clear hfin HI HS
                    go_wp2_with fail
                    refine HST2.out.mono ?_
                    rintro e w6 ⟨rfl, st1, hS1⟩
                    obtain ⟨S1, hS1e⟩ : ∃ x, x = (nxt mark S).at st1 := ⟨_, rfl⟩
                    have hI1 := HI1.out st1
                    rw [← hS1e] at hI1 hS1
                    have HI := Lib.hid hI1
                    have HS := Lib.hid hS1
                    obtain ⟨P, hP⟩ := swat_has hS1
                    have hR := HBS.out _ _ hP
                    have HKW := Lib.hid (HK3.out.tr hR.keeps)
                    have HR := Lib.hid hR.assoc'.fst
                    clear hI1 hS1 hS1e HI1 HST2 hP hR
                    have hmono := mn_le i
                    by_cases hin2 : i < nz ∧ i < 200
                    · obtain ⟨hinz, hi2⟩ := hin2
                      have d1 : decide ((i : Int) < (nz : Int)) = true := by simp; omega
                      have d1' : decide (i < nz) = true := by simp; omega
                      have d2 : decide ((i : Int) < 200) = true := by simp; omega
                      have d2' : decide (i < 200) = true := by simp; omega
                      have q1 : 0 ≤ (i : Int) ∧ (i : Int) < (nz : Int) := by omega
                      obtain ⟨gz, oz, rfl, _, hcz⟩ := HIZ.out.2 (by omega)
                      have cz1 := HKW.out.cell (hcz i hinz) (by simp)
                      obtain ⟨x, hx⟩ : ∃ x, z i = x := ⟨_, rfl⟩
                      rw [hx] at cz1
                      clear hcz hx
                      by_cases hx0 : 0 ≤ x
                      · obtain ⟨kx, rfl⟩ : ∃ kx : Nat, x = kx := ⟨x.toNat, by omega⟩
                        have y1 : decide ((kx : Int) ≥ 0) = true := by simp
                        have y1' : decide (0 ≤ (kx : Int)) = true := by simp
                        by_cases hxm : kx < j
                        · have y2 : decide ((kx : Int) < (j : Int)) = true := by simp; omega
                          have y2' : decide (kx < j) = true := by simp; omega
                          have q2 : 0 ≤ (kx : Int) ∧ (kx : Int) < (j : Int) := by omega
                          obtain ⟨gn, rfl, cn⟩ := last_cell HR.out (nodesL_len j).symm (k := kx) (by rw [nodesL_len]; exact hxm)
                          rw [nodes_get hxm] at cn
                          obtain ⟨ox, hst, px, bk⟩ := swat_store HS.out
                          obtain ⟨hh1, hh2, hh3⟩ := chs_head HI.out.chs (i := kx) (by rw [HI.out.nN]; exact hxm)
                          have HHD := Lib.hid (head_at hst kx (hd (S1.ch kx)) hh1 (by have := HI.out.nV; omega))
                          have HH := Lib.hid (show S1.A.nxOk (hd (S1.ch kx)) from nxOk_of hh2)
                          have HH1 := Lib.hid hh1
                          have HBK := Lib.hid bk
                          have HWD := Lib.hid (words_in HI.out.ok HI.out.chs)
                          have HTX := Lib.hid (show 0 ∉ ox from tab_out (show TabAt w5 from HT.out.kept HK5.out (by simp)) HTO.out px)
                          have e5 : IntKind.i64.wrap (200 + (i : Int)) = 200 + (i : Int) := by unfold IntKind.wrap; simp [IntKind.bits, IntKind.signed]; omega
                          have e6 : IntKind.u64.wrap (200 + (i : Int)) = 200 + (i : Int) := by unfold IntKind.wrap; simp [IntKind.bits, IntKind.signed]; omega
                          have hnV := HI.out.nV
                          have HPI := Lib.hid (fun st => HI.out.push hxm st ⟨#[110, 101, 119]⟩ (200 + (i : Int)) (by omega) (by omega) (by omega))
                          have hus := HI.out.used
                          have hsz := HI.out.size
                          obtain ⟨hv, hhv⟩ : ∃ hv, hd (S1.ch kx) = hv := ⟨_, rfl⟩
                          rw [hhv] at HHD HH HH1
                          have HHV := Lib.hid hhv
                          clear HS HR hst px bk hh1 hh2 hh3 hhv
                          go_wp2_with fail
                          refine HHD.out.mono ?_
                          rintro e w7 ⟨rfl, hX⟩
                          have HVE := Lib.hid (version_ok (val := ⟨#[110, 101, 119]⟩) (bg := 200 + (i : Int)) (nx := hv) (show S1.A.step.nxOk hv from HH.out) hX (HT.out.kept HKW.out (by simp)) HTX.out (by show S1.A.used + 3 ≤ S1.A.size; omega) (by decide) (by omega) (by omega) (begins_time (by omega) (by omega)) (by show S1.A.nV ≤ _; omega))
                          clear hX HHD
                          go_wp2_with fail
                          refine HVE.out.mono ?_
                          rintro e w8 ⟨rfl, st2, hX⟩
                          have HPU := Lib.hid (push_ok hX kx S1.A.nV hv (nxOk_more HH.out) (by exact HH1.out) (addVer_new _ _ _ _ _).1 (by show S1.A.nV + 1 ≤ _; omega))
                          clear hX HVE
                          go_wp2_with fail
                          refine HPU.out.mono ?_
                          rintro e w9 ⟨rfl, hX⟩
                          rw [at_set_step] at hX
                          have hpv : ∀ v ∈ S1.pc.words, bgn ((pushA S1.A st2 ⟨#[110, 101, 119]⟩ (200 + (i : Int)) S1.ch kx).at (wrap64 (st2 + 1))) v = bgn S1.A v ∧ enn ((pushA S1.A st2 ⟨#[110, 101, 119]⟩ (200 + (i : Int)) S1.ch kx).at (wrap64 (st2 + 1))) v = enn S1.A v := fun v hv => push_old _ _ _ _ _ _ (HWD.out v hv).1 (HWD.out v hv).2
                          have hS2 := HBK.out w9 ((pushA S1.A st2 ⟨#[110, 101, 119]⟩ (200 + (i : Int)) S1.ch kx).at (wrap64 (st2 + 1))) (pushC S1.A S1.ch kx) hpv (by unfold pushA; rw [HHV.out]; exact hX)
                          have HS2 := Lib.hid hS2
                          have HI2 := Lib.hid ((HPI.out st2).at (wrap64 (st2 + 1)))
                          have e7 : 3300 + 18 * mn i + 18 ≤ 3300 + 18 * mn (i + 1) := by unfold mn; rw [if_pos hi2]; split <;> omega
                          have e8 : IntKind.i64.wrap ((q : Int) + 1) = ((q + 1 : Nat) : Int) := by unfold IntKind.wrap; simp [IntKind.bits, IntKind.signed]; omega
                          clear hX hS2 HPU HBK HWD hpv HPI
                          go_wp2_with fail
                          go_roundg (100000 - (i + 1))
                          case measure => rw [HKI.out]; omega
                          case rel => exact ⟨i + 1, q + 1, _, rfl, rfl, by go_num, by omega, by omega, HI2.out.credit e7, HS2.out⟩
                        · have y2 : decide ((kx : Int) < (j : Int)) = false := by simp; omega
                          have y2' : decide (kx < j) = false := by simp; omega
                          clear HR
                          go_wp2_with fail
                          go_roundg (100000 - (i + 1))
                          case measure => rw [HKI.out]; omega
                          case rel => exact ⟨i + 1, q, S1, rfl, rfl, by go_num, hq2, by omega, HI.out.credit (by omega), HS.out⟩
                      · have y1 : decide (x ≥ 0) = false := by simp; omega
                        have y1' : decide (0 ≤ x) = false := by simp; omega
                        clear HR
                        go_wp2_with fail
                        go_roundg (100000 - (i + 1))
                        case measure => rw [HKI.out]; omega
                        case rel => exact ⟨i + 1, q, S1, rfl, rfl, by go_num, hq2, by omega, HI.out.credit (by omega), HS.out⟩
                    · have HST3 := Lib.hid (show (i < nz ∧ decide ((i : Int) < (nz : Int)) = true ∧ decide (i < nz) = true ∧ decide ((i : Int) < 200) = false ∧ decide (i < 200) = false) ∨ (decide ((i : Int) < (nz : Int)) = false ∧ decide (i < nz) = false) from by
                        by_cases h1 : i < nz
                        · left; simp; omega
                        · right; simp; omega)
                      clear HR hin2
                      rcases HST3.out with ⟨_, x1, x2, x3, x4⟩ | ⟨x1, x2⟩
                      all_goals (
                        go_wp2_with fail
                        go_roundg (100000 - (i + 1))
                        case measure => rw [HKI.out]; omega
                        case rel => exact ⟨i + 1, q, S1, rfl, rfl, by go_num, hq2, by omega, HI.out.credit (by omega), HS.out⟩))
end Go.Proofs.YtbodobdllchmgaaDoor
