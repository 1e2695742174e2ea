/- A sweep that runs alone: what comes of it, within how many steps.
Both stores' chains; the walk of the statements' own same.
The walk of the statements' own sees: which version of a node is seen at a time; what a sweep does to that, told plainly. -/
import Derived.Test.YtbodobdllchmgaaDoorMBetween11
import Derived.Test.YtbodobdllchmgaaDoorMBetween12
namespace Go.Proofs.YtbodobdllchmgaaDoor
open Go Go.RowKit
set_option linter.unusedVariables false

abbrev Tri := ASt × (Nat → List Nat) × Nat

def chL (A : ASt) (ch : Nat → List Nat) (x : Int) : List Nat := if A.isN x = true then ch (x - 1).toNat else []
def tkT (mark : Int) (t : Tri) (i : Nat) (vs : List Nat) : Tri := ((tkA mark t.1 t.2.1 i vs).1, (tkA mark t.1 t.2.1 i vs).2.1, t.2.2 + (tkA mark t.1 t.2.1 i vs).2.2)
/-- What a sweep does to one node. -/
def one (mark : Int) (t : Tri) (x : Int) : Tri := match chL t.1 t.2.1 x with
  | [] => t
  | u :: r => tkT mark t (x - 1).toNat (u :: r)
def outcome (mark : Int) (S : Sw) : Tri := match S.pc with
  | .node => S.rest.foldl (one mark) (S.A, S.ch, S.gone)
  | .beg i vs u r => S.rest.foldl (one mark) (tkT mark (S.A, S.ch, S.gone) i (vs ++ u :: r))
  | .en i vs u r => S.rest.foldl (one mark) (tkT mark (S.A, S.ch, S.gone) i (vs ++ u :: r))
  | .beh i vs u r => S.rest.foldl (one mark) (tkT mark (S.A, S.ch, S.gone) i (vs ++ u :: r))
  | .tk i vs => S.rest.foldl (one mark) (tkT mark (S.A, S.ch, S.gone) i vs)

theorem outcome_nxt (mark : Int) (S : Sw) : outcome mark (nxt mark S) = outcome mark S := by
  obtain ⟨A, ch, gn, rest, pc⟩ := S
  cases pc with
  | node =>
    cases rest with
    | nil => rfl
    | cons x rest =>
      have e : outcome mark ⟨A, ch, gn, x :: rest, .node⟩ = rest.foldl (one mark) (one mark (A, ch, gn) x) := rfl
      rw [e]
      unfold nxt one chL
      dsimp only
      cases hl : (if A.isN x = true then ch (x - 1).toNat else []) with
      | nil => rfl
      | cons u r => rfl
  | beg i vs u r => rfl
  | en i vs u r => rfl
  | beh i vs u r =>
    cases r with
    | nil => rfl
    | cons u' r' =>
      show rest.foldl (one mark) (tkT mark (A, ch, gn) i ((vs ++ [u]) ++ u' :: r')) = rest.foldl (one mark) (tkT mark (A, ch, gn) i (vs ++ u :: u' :: r'))
      rw [List.append_assoc]; rfl
  | tk i vs => rfl

def atT (t : Tri) (st : Int) : Tri := (t.1.at st, t.2)
theorem tkA_at (mark : Int) (A : ASt) (st : Int) (ch : Nat → List Nat) (i : Nat) (vs : List Nat) : tkA mark (A.at st) ch i vs = atT (tkA mark A ch i vs) st := by
  have hs : stayL (A.at st) mark vs = stayL A mark vs := rfl
  unfold tkA
  rw [hs]
  dsimp only
  split
  · rfl
  · split
    · rw [cutV_at']; rfl
    · split
      · rw [cutV_at', dropV_at']; rfl
      · rfl
theorem tkT_at (mark : Int) (t : Tri) (st : Int) (i : Nat) (vs : List Nat) : tkT mark (atT t st) i vs = atT (tkT mark t i vs) st := by
  unfold tkT
  show (((tkA mark (t.1.at st) t.2.1 i vs).1, (tkA mark (t.1.at st) t.2.1 i vs).2.1, t.2.2 + (tkA mark (t.1.at st) t.2.1 i vs).2.2) : Tri) = _
  rw [tkA_at]; rfl
theorem one_at (mark : Int) (t : Tri) (st : Int) (x : Int) : one mark (atT t st) x = atT (one mark t x) st := by
  unfold one
  have : chL (atT t st).1 (atT t st).2.1 x = chL t.1 t.2.1 x := rfl
  rw [this]
  cases chL t.1 t.2.1 x with
  | nil => rfl
  | cons u r => exact tkT_at mark t st _ _
theorem fold_at (mark : Int) (l : List Int) (t : Tri) (st : Int) : l.foldl (one mark) (atT t st) = atT (l.foldl (one mark) t) st := by
  induction l generalizing t with
  | nil => rfl
  | cons x l ih => rw [List.foldl_cons, one_at, ih, List.foldl_cons]
theorem outcome_at (mark : Int) (S : Sw) (st : Int) : outcome mark (S.at st) = atT (outcome mark S) st := by
  obtain ⟨A, ch, gn, rest, pc⟩ := S
  cases pc with
  | node => exact fold_at mark rest (A, ch, gn) st
  | beg i vs u r => show rest.foldl (one mark) (tkT mark (atT (A, ch, gn) st) i (vs ++ u :: r)) = _; rw [tkT_at, fold_at]; rfl
  | en i vs u r => show rest.foldl (one mark) (tkT mark (atT (A, ch, gn) st) i (vs ++ u :: r)) = _; rw [tkT_at, fold_at]; rfl
  | beh i vs u r => show rest.foldl (one mark) (tkT mark (atT (A, ch, gn) st) i (vs ++ u :: r)) = _; rw [tkT_at, fold_at]; rfl
  | tk i vs => show rest.foldl (one mark) (tkT mark (atT (A, ch, gn) st) i vs) = _; rw [tkT_at, fold_at]; rfl

theorem cutV_used {A : ASt} {v : Nat} {post : List Nat} (hd' : post.Pairwise (· > ·)) (h : ∀ u ∈ post, 1 ≤ u ∧ A.ver (u - 1) = true) : (A.cutV v post).used + 3 * post.length = A.used := by
  unfold ASt.cutV
  have := goneAll_used (A := A.set (.next (v - 1)) 0) post hd' fun u hu => ⟨(h u hu).1, by rw [ASt.ver_set]; exact (h u hu).2⟩
  rw [ASt.used_set] at this
  exact this
theorem dropV_used {A : ASt} {i v : Nat} {nx : Int} (h : A.ver (v - 1) = true) : (A.dropV i v nx).used + 3 = A.used := by
  unfold ASt.dropV
  have := goneV_used (A := A.set (.head i) nx) (i := v - 1) (by rw [ASt.ver_set]; exact h)
  rw [ASt.used_set] at this
  exact this

theorem tkA_used {mark : Int} {A : ASt} {ch : Nat → List Nat} (h : Chs A ch) {i : Nat} (hi : i < A.nN) {pre vs : List Nat} (e : ch i = pre ++ vs) : (tkA mark A ch i vs).1.used + 3 * (tkA mark A ch i vs).2.2 = A.used := by
  have hl := h.link i hi
  have hf := hl.falls h.down
  rw [e] at hl hf
  have hlv := Linked.tail pre hl
  have hfv := (List.pairwise_append.1 hf).2.1
  have hm := hlv.mem
  rcases tkA_eq mark A ch i vs with ⟨ht, _⟩ | ⟨s, hs, hlt, ht⟩ | ⟨hs, h0, hc, ht⟩
  · rw [ht]; rfl
  · rw [ht]
    have := cutV_used (A := A) (v := vs.getD s 0) (post := vs.drop (s + 1)) (hfv.sublist (List.drop_sublist _ _)) fun u hu => hm u (List.mem_of_mem_drop hu)
    rw [List.length_drop] at this
    exact this
  · rw [ht]
    have h1 := cutV_used (A := A) (v := vs.getD 0 0) (post := vs.drop 1) (hfv.sublist (List.drop_sublist _ _)) fun u hu => hm u (List.mem_of_mem_drop hu)
    have hsp := split_at vs 0 h0
    rw [List.take_zero, List.nil_append] at hsp
    have hm0 := hm (vs.getD 0 0) (by rw [hsp]; simp)
    rw [hsp] at hfv
    have hv : (A.cutV (vs.getD 0 0) (vs.drop 1)).ver (vs.getD 0 0 - 1) = true := by
      rw [cutV_ver A fun u hu => (hm u (List.mem_of_mem_drop hu)).1, hm0.2]
      simp only [Bool.true_and, decide_eq_true_eq]
      intro hmem
      rw [show vs.getD 0 0 - 1 + 1 = vs.getD 0 0 by have := hm0.1; omega] at hmem
      exact absurd ((List.pairwise_cons.1 hfv).1 _ hmem) (Nat.lt_irrefl _)
    have h2 := dropV_used (A := A.cutV (vs.getD 0 0) (vs.drop 1)) (i := i) (v := vs.getD 0 0) (nx := 0) hv
    rw [List.length_drop] at h1
    show ((A.cutV (vs.getD 0 0) (vs.drop 1)).dropV i (vs.getD 0 0) 0).used + 3 * vs.length = A.used
    omega

theorem nxt_used {mark : Int} {S : Sw} (hc : Chs S.A S.ch) (hp : S.pc.ok S.A S.ch) : (nxt mark S).A.used + 3 * (nxt mark S).gone = S.A.used + 3 * S.gone := by
  obtain ⟨A, ch, gn, rest, pc⟩ := S
  cases pc with
  | node =>
    cases rest with
    | nil => rfl
    | cons x rest =>
      obtain ⟨_, h1, _, h2, _⟩ := nxt_node (mark := mark) (S := ⟨A, ch, gn, x :: rest, .node⟩) rfl rfl
      rw [h1, h2]
  | beg i vs u r => rfl
  | en i vs u r => rfl
  | beh i vs u r => cases r <;> rfl
  | tk i vs =>
    obtain ⟨hi, hv, pre, e⟩ := hp
    have h5 : (tkA mark A ch i vs).1.used + 3 * (tkA mark A ch i vs).2.2 = A.used := tkA_used hc hi e
    show (tkA mark A ch i vs).1.used + 3 * (gn + (tkA mark A ch i vs).2.2) = A.used + 3 * gn
    omega

def cost (A : ASt) (ch : Nat → List Nat) (x : Int) : Nat := 3 * (chL A ch x).length + 2
def costs (A : ASt) (ch : Nat → List Nat) : List Int → Nat
  | [] => 0
  | x :: l => cost A ch x + costs A ch l
def leftS (S : Sw) : Nat := S.pc.left + costs S.A S.ch S.rest

theorem costs_mono {A A' : ASt} {ch ch' : Nat → List Nat} (hN : A'.nN = A.nN) (h : ∀ j, ch' j <+: ch j) (l : List Int) : costs A' ch' l ≤ costs A ch l := by
  induction l with
  | nil => exact Nat.le_refl _
  | cons x l ih =>
    have : cost A' ch' x ≤ cost A ch x := by
      unfold cost chL
      rw [isN_of hN]
      split
      · have := (h (x - 1).toNat).length_le; omega
      · omega
    unfold costs; omega

theorem nxt_leftS {mark : Int} {S : Sw} (hc : Chs S.A S.ch) (hp : S.pc.ok S.A S.ch) (hf : ¬ (S.pc = .node ∧ S.rest = [])) : leftS (nxt mark S) < leftS S := by
  obtain ⟨_, _, hN, _, hpre, _⟩ := nxt_ok (mark := mark) hc hp
  by_cases hn : S.pc = .node
  · cases hr : S.rest with
    | nil => exact absurd ⟨hn, hr⟩ hf
    | cons x rest =>
      obtain ⟨h1, h2, h3, h4, h5⟩ := nxt_node (mark := mark) hn hr
      unfold leftS
      rw [h1, h2, h3, hn, hr]
      have hcost : (nxt mark S).pc.left < cost S.A S.ch x := by
        unfold cost chL
        rcases h5 with ⟨e, _⟩ | ⟨hx, u, r, e1, e⟩
        · rw [e]; show 0 < _; omega
        · rw [e, if_pos hx, e1]; show 3 * r.length + 4 < _; rw [List.length_cons]; omega
      show _ < 0 + (cost S.A S.ch x + costs S.A S.ch rest)
      omega
  · obtain ⟨h1, h2⟩ := nxt_left (mark := mark) hn
    have := costs_mono hN hpre S.rest
    unfold leftS
    rw [h2]; omega

variable {o : List Nat} {w0 w : World} {b ob : Nat} {mark : Int} {nv : Value} {l : List Int}

/-- Steps to the end, at most so many. -/
def RunsB (ob : Nat) (R : Nat → World → Prop) (F : World → Prop) : Prop :=
  ∀ n w, R n w → (Calls Tryd.prog 11 #[Pt ob] w fun e w' => e = .returned (.bool false) ∧ ∃ m, m < n ∧ R m w') ∨ (Calls Tryd.prog 11 #[Pt ob] w fun e w' => e = .returned (.bool true) ∧ F w')

set_option maxHeartbeats 1000000 in
set_option maxRecDepth 100000 in
theorem done_walk2 {R : Nat → World → Prop} {F : World → Prop} (hR : RunsB ob R F) (n : Nat) (most : Int) (hm : (n : Int) + 1 ≤ most) (hm9 : most ≤ 1000000000000) (h : R n w) :
    Calls Tryd.prog 20 #[Pt ob, .int .i64 most] w fun e w' => ∃ k : Int, e = .returned (.int .i64 k) ∧ 0 < k ∧ F w' := by
  have HR := Lib.hid hR
  have H := Lib.hid h
  clear hR h
  go_enter Tryd.func20, Tryd.ntmps20
  go_wp2_with fail
  go_loopg [5] n (fun k iv wr => ∃ i : Nat, k + i ≤ n ∧ iv = .int .i64 ((i : Int) + 1) ∧ R k wr)
  case atStart => exact ⟨0, Nat.le_refl _, rfl, H.out⟩
  case round =>
    clear H
    obtain ⟨i, hi, rfl, hX⟩ := hrel
    have d1 : decide ((i : Int) + 1 ≤ most) = true := by simp; omega
    rcases HR.out _ _ hX with hS | hS
    · have HS := Lib.hid hS
      clear hS hX
      go_wp2_with fail
      refine HS.out.mono ?_
      rintro e w2 ⟨rfl, m, hm, hX⟩
      have HX := Lib.hid hX
      clear hX
      go_wp2_with fail
      go_roundg m
      case measure => exact hm
      case rel => exact ⟨i + 1, by omega, by go_num, HX.out⟩
    · have HS := Lib.hid hS
      clear hS hX
      go_wp2_with fail
      refine HS.out.mono ?_
      rintro e w2 ⟨rfl, hX⟩
      have HX := Lib.hid hX
      clear hX
      go_wp2_with fail
      go_ret
      exact ⟨_, rfl, by omega, HX.out⟩

/-- A sweep alone, to its end. -/
theorem run_alone {S : Sw} (hS : SwAt o w0 w b ob mark nv l S) (hc : Chs S.A S.ch) (hp : S.pc.ok S.A S.ch) (hV : S.A.nV ≤ 1000000) (hU : S.A.used + 3 * S.gone ≤ 1000000) (most : Int) (hm : (leftS S : Int) + 1 ≤ most) (hm9 : most ≤ 1000000000000) :
    Calls Tryd.prog 20 #[Pt ob, .int .i64 most] w fun e w' => ∃ k : Int, e = .returned (.int .i64 k) ∧ 0 < k ∧ ∃ (S' : Sw) (st : Int), SwDone o w0 w' b ob mark nv l S' ∧ (S'.A, S'.ch, S'.gone) = atT (outcome mark S) st ∧ Chs S'.A S'.ch ∧
      S'.A.nN = S.A.nN ∧ S'.A.nV = S.A.nV ∧ S'.A.used + 3 * S'.gone = S.A.used + 3 * S.gone := by
  refine done_walk2 (R := fun n W => ∃ (S' : Sw) (st : Int), SwAt o w0 W b ob mark nv l S' ∧ outcome mark S' = atT (outcome mark S) st ∧ Chs S'.A S'.ch ∧ S'.pc.ok S'.A S'.ch ∧ S'.A.nN = S.A.nN ∧ S'.A.nV = S.A.nV ∧ S'.A.used + 3 * S'.gone = S.A.used + 3 * S.gone ∧ leftS S' ≤ n)
    (F := fun W => ∃ (S' : Sw) (st : Int), SwDone o w0 W b ob mark nv l S' ∧ (S'.A, S'.ch, S'.gone) = atT (outcome mark S) st ∧ Chs S'.A S'.ch ∧ S'.A.nN = S.A.nN ∧ S'.A.nV = S.A.nV ∧ S'.A.used + 3 * S'.gone = S.A.used + 3 * S.gone)
    ?_ (leftS S) most hm hm9 ⟨S, S.A.steps, hS, outcome_at mark S S.A.steps, hc, hp, rfl, rfl, rfl, Nat.le_refl _⟩
  rintro n W ⟨S', st, h1, h2, h3, h4, h5, h6, h7, h8⟩
  by_cases hf : S'.pc = .node ∧ S'.rest = []
  · right
    refine (step_last h1 hf.1 hf.2).mono ?_
    rintro e w' ⟨rfl, h'⟩
    refine ⟨rfl, S', st, h', ?_, h3, h5, h6, h7⟩
    rw [← h2]
    unfold outcome
    rw [hf.1]
    dsimp only
    rw [hf.2]; rfl
  · left
    refine (step_any h1 h3 h4 (by omega) (by omega) hf).mono ?_
    rintro e w' ⟨rfl, st', h'⟩
    obtain ⟨a1, a2, a3, a4, _, _⟩ := nxt_ok (mark := mark) h3 h4
    have hl := nxt_leftS (mark := mark) h3 h4 hf
    refine ⟨rfl, leftS (nxt mark S'), by omega, (nxt mark S').at st', st', h', ?_, a1.at st', ?_, a3.trans h5, a4.trans h6, (nxt_used h3 h4).trans h7, Nat.add_le_add_left (costs_mono (A := (nxt mark S').A) (A' := (nxt mark S').A.at st') rfl (fun _ => List.prefix_refl _) _) _⟩
    · rw [outcome_at, outcome_nxt, h2]; rfl
    · show (nxt mark S').pc.ok ((nxt mark S').A.at st') (nxt mark S').ch
      cases hpc : (nxt mark S').pc <;> (rw [hpc] at a2; exact a2)
end Go.Proofs.YtbodobdllchmgaaDoor
namespace Go.Proofs.YtbodobdllchmgaaDoor
open Go Go.RowKit
set_option linter.unusedVariables false

variable {o : List Nat} {w0 w : World} {b rb : Nat} {A : ASt} {rs s : Int} {B N C : Part} {ch : Nat → List Nat}

theorem Has.pull (h : Has o w0 w ((C.sep N).sep B)) : Has o w0 w ((C.sep B).sep N) := by
  have h1 := h.assoc
  obtain ⟨o', h', _, _, b'⟩ := h1.right
  exact (b' _ _ h'.swap).assoc'

/-- A node's chain, by the store, whatever the number. -/
theorem chain_any (h : Has o w0 w (.store b A)) (hc : Chs A ch) (x : Int) (hV : A.nV ≤ 1000000) :
    Calls Tryd.prog 45 #[P0 b, .int .i64 x] w fun e w' => ∃ lv st, e = .returned lv ∧ Has o w0 w' ((Part.store b (A.at st)).sep (.nums lv (chL A ch x))) := by
  by_cases hx : A.isN x = true
  · obtain ⟨i, rfl, hi, e1, hh⟩ := isN_head hc hx
    have e : chL A ch ((i : Int) + 1) = chainF A (hd (ch i)).toNat (hd (ch i)) := by
      unfold chL; rw [if_pos hx, e1]
      exact ((hc.link i hi).chain hc.down _ (Nat.le_refl _)).symm
    rw [e]
    exact Chain_at h i _ hh (by omega)
  · have hx' : A.isN x = false := by simpa using hx
    have e : chL A ch x = [] := by unfold chL; rw [if_neg hx]
    rw [e]
    refine (Chain_none h x hx').mono ?_
    rintro e w' ⟨rfl, rfl⟩
    exact ⟨_, A.steps, rfl, h.beside (Has.nilNums _)⟩
theorem rchain_any (h : Has o w0 w (.rstore b A rs)) (hok : AOk A) (hc : Chs A ch) (x : Int) (hV : A.nV ≤ 1000000) :
    Calls Tryd.prog 18 #[P0 b, .int .i64 x] w fun e w' => ∃ lv, e = .returned lv ∧ Has o w0 w' ((Part.rstore b A rs).sep (.nums lv (chL A ch x))) := by
  by_cases hx : A.isN x = true
  · obtain ⟨i, rfl, hi, e1, hh⟩ := isN_head hc hx
    have e : chL A ch ((i : Int) + 1) = chainF A (hd (ch i)).toNat (hd (ch i)) := by
      unfold chL; rw [if_pos hx, e1]
      exact ((hc.link i hi).chain hc.down _ (Nat.le_refl _)).symm
    rw [e]
    exact rChain_at h hok i _ hh (by omega)
  · have hx' : A.isN x = false := by simpa using hx
    have e : chL A ch x = [] := by unfold chL; rw [if_neg hx]
    rw [e]
    refine (rChain_no h x hx').mono ?_
    rintro e w' ⟨rfl, rfl⟩
    exact ⟨_, rfl, h.beside (Has.nilNums _)⟩

theorem aok_at (hok : AOk (A.at s)) : AOk A := ⟨hok.fit, hok.big, hok.word, hok.headLe, hok.nextLe⟩

theorem chain_two (h : Has o w0 w ((Part.two b rb (A.at s) A rs).sep B)) (hc : Chs A ch) (x : Int) (hV : A.nV ≤ 1000000) :
    Calls Tryd.prog 45 #[P0 b, .int .i64 x] w fun e w' => ∃ lv s', e = .returned lv ∧ Has o w0 w' (((Part.two b rb (A.at s') A rs).sep B).sep (.nums lv (chL A ch x))) := by
  obtain ⟨o1, h1, _, _, b1⟩ := h.left
  obtain ⟨o2, h2, _, _, b2⟩ := Has.left (A := .store b (A.at s)) (B := .rstore rb A rs) h1
  refine (chain_any h2 (hc.at s) x hV).mono ?_
  rintro e w' ⟨lv, st, rfl, h'⟩
  exact ⟨lv, st, rfl, Has.pull (b1 _ _ (Has.pull (b2 _ _ h')))⟩
theorem rchain_two (h : Has o w0 w ((Part.two b rb (A.at s) A rs).sep B)) (hc : Chs A ch) (x : Int) (hV : A.nV ≤ 1000000) :
    Calls Tryd.prog 18 #[P0 rb, .int .i64 x] w fun e w' => ∃ lv, e = .returned lv ∧ Has o w0 w' (((Part.two b rb (A.at s) A rs).sep B).sep (.nums lv (chL A ch x))) := by
  have hok := aok_at (pair_ok h)
  obtain ⟨o1, h1, _, _, b1⟩ := h.left
  obtain ⟨o2, h2, _, _, b2⟩ := Has.right (A := .store b (A.at s)) (B := .rstore rb A rs) h1
  refine (rchain_any h2 hok hc x hV).mono ?_
  rintro e w' ⟨lv, rfl, h'⟩
  exact ⟨lv, rfl, Has.pull (b1 _ _ (b2 _ _ h').assoc')⟩

theorem nums_row {v : Value} {cs : List Nat} (h : Has o w0 w (.nums v cs)) : ∃ p cap, v = .slice p cs.length cap ∧ cs.length ≤ 9223372036854775807 ∧ ∀ k, k < cs.length → ∃ g, p = some ⟨g, 0, none⟩ ∧ w.cell? ⟨g, k, none⟩ = some (.int .i64 ((cs.getD k 0 : Nat) : Int)) := by
  obtain ⟨p, cap, e, h1, _, hc⟩ := nums_open h
  refine ⟨p, cap, e, Nat.le_trans h1 (by decide), fun k hk => ?_⟩
  obtain ⟨g, hp, hcell⟩ := hc (by omega)
  refine ⟨g, hp, ?_⟩
  rw [hcell k hk, List.getD_eq_getElem?_getD, List.getElem?_eq_getElem hk]; rfl

theorem node_cell {g off m c : Nat} {nl : List Int} (h : Has o w0 w (B.sep (.ints (.slice (some ⟨g, off, none⟩) m c) nl))) (hm : m = nl.length) {k : Nat} (hk : k < nl.length) : w.cell? ⟨g, off + k, none⟩ = some (.int .i64 (nl.getD k 0)) := by
  subst hm
  obtain ⟨_, h1, _⟩ := h.right
  obtain ⟨g2, off2, hp, cg⟩ := row_cell h1.intsAt rfl (k := k) hk
  obtain ⟨rfl, rfl⟩ : g = g2 ∧ off = off2 := by simpa using hp
  exact cg
theorem ints_small {v : Value} {nl : List Int} (h : Has o w0 w (.ints v nl)) : nl.length ≤ 9223372036854775807 := by
  rcases (ap_row h).2 with ⟨_, h0⟩ | ⟨g, cap, cur, _, _, _, h2, h3, _⟩
  · omega
  · exact Nat.le_trans (Nat.le_trans h2 h3) (by decide)

set_option maxHeartbeats 4000000 in
set_option maxRecDepth 100000 in
/-- Both have the same chains. -/
theorem same_walk {nv : Value} {nl : List Int} (h : Has o w0 w ((Part.two b rb (A.at s) A rs).sep (.ints nv nl))) (hc : Chs A ch) (hV : A.nV ≤ 1000000) :
    Calls Tryd.prog 22 #[P0 b, P0 rb, nv] w fun e w' => e = .returned (.bool true) ∧ ∃ s', Has o w0 w' ((Part.two b rb (A.at s') A rs).sep (.ints nv nl)) := by
  obtain ⟨_, h1, _⟩ := h.right
  obtain ⟨np, nc, rfl⟩ := ap_ints h1
  have h9 : nl.length ≤ 9223372036854775807 := by
    have := (ap_row h1).2
    rcases this with ⟨_, h0⟩ | ⟨g, cap, cur, _, _, _, h2, h3, _⟩
    · omega
    · exact Nat.le_trans (Nat.le_trans h2 h3) (by decide)
  have HX := Lib.hid h
  have HC := Lib.hid hc
  clear h h1 hc
  go_enter Tryd.func22, Tryd.ntmps22
  go_wp2_with fail
  go_loopg [7] nl.length (fun k iv wr => ∃ (i : Nat) (s' : Int), i ≤ nl.length ∧ k = nl.length - i ∧ iv = .int .i64 i ∧ Has o w0 wr ((Part.two b rb (A.at s') A rs).sep (.ints (.slice np nl.length nc) nl)))
  case atStart => exact ⟨0, s, Nat.zero_le _, rfl, rfl, HX.out⟩
  case round =>
    clear HX
    obtain ⟨i, s1, hi, hk, rfl, hX⟩ := hrel
    have HKK := Lib.hid hk
    have HX := Lib.hid hX
    clear hk hX
    by_cases hlt : i < nl.length
    · have d1 : decide ((i : Int) < (nl.length : Int)) = true := by simp; omega
      have d1' : decide (i < nl.length) = true := by simp; omega
      have q1 : 0 ≤ (i : Int) ∧ (i : Int) < (nl.length : Int) := by omega
      obtain ⟨_, h1, _⟩ := HX.out.right
      obtain ⟨g, off, hp, cg⟩ := row_cell h1.intsAt rfl (k := i) hlt
      subst hp
      obtain ⟨x, hx⟩ : ∃ x, nl.getD i 0 = x := ⟨_, rfl⟩
      rw [hx] at cg
      have HXX := Lib.hid hx
      clear hx
      have HC1 := Lib.hid (chain_two HX.out HC.out x hV)
      clear HX h1
      go_wp2_with fail
      refine HC1.out.mono ?_
      rintro e w4 ⟨lv, s4, rfl, hX⟩
      have y1 := node_cell hX.fst rfl (k := i) hlt
      rw [HXX.out] at y1
      have HX4 := Lib.hid hX
      have HC2 := Lib.hid (rchain_two hX.assoc HC.out x hV)
      clear hX HC1 cg
      go_wp2_with fail
      refine HC2.out.mono ?_
      rintro e w5 ⟨lv2, rfl, hX⟩
      have HX5 := Lib.hid hX
      obtain ⟨_, h5, _⟩ := hX.left
      obtain ⟨_, h6, _⟩ := h5.right
      obtain ⟨_, h7, _⟩ := h6.right
      obtain ⟨_, h8, _⟩ := hX.right
      obtain ⟨p1, c1, rfl, hs1, _⟩ := nums_row h7
      obtain ⟨p2, c2, rfl, hs2, _⟩ := nums_row h8
      generalize chL A ch x = L at *
      clear hX h5 h6 h7 h8 HC2 y1 HX4
      have z1 : decide ((L.length : Int) ≠ (L.length : Int)) = false := by simp
      go_wp2_with fail
      go_loopg [10] L.length (fun k jv wx => ∃ j : Nat, j ≤ L.length ∧ k = L.length - j ∧ jv = .int .i64 j ∧ Has o w0 wx (((Part.two b rb (A.at s4) A rs).sep ((Part.ints (.slice (some ⟨g, off, none⟩) nl.length nc) nl).sep (.nums (.slice p1 L.length c1) L))).sep (.nums (.slice p2 L.length c2) L)))
      case atStart => exact ⟨0, Nat.zero_le _, rfl, rfl, HX5.out⟩
      case round =>
        clear HX5
        obtain ⟨j, hj, hkj, rfl, hX⟩ := hrel
        have HKJ := Lib.hid hkj
        have HX := Lib.hid hX
        clear hkj hX
        by_cases hjl : j < L.length
        · have g1 : decide ((j : Int) < (L.length : Int)) = true := by simp; omega
          have g1' : decide (j < L.length) = true := by simp; omega
          have q2 : 0 ≤ (j : Int) ∧ (j : Int) < (L.length : Int) := by omega
          have q3 : (0 : Int) ≤ (j : Int) := by omega
          have q4 : (j : Int) < (L.length : Int) := by omega
          obtain ⟨_, h5, _⟩ := HX.out.left
          obtain ⟨_, h6, _⟩ := h5.right
          obtain ⟨_, h7, _⟩ := h6.right
          obtain ⟨_, h8, _⟩ := HX.out.right
          obtain ⟨_, _, e1, _, hc1⟩ := nums_row h7
          obtain ⟨rfl, rfl⟩ : p1 = _ ∧ c1 = _ := by simpa using e1
          obtain ⟨g1b, hp1, x1⟩ := hc1 j hjl
          obtain ⟨_, _, e2, _, hc2⟩ := nums_row h8
          obtain ⟨rfl, rfl⟩ : p2 = _ ∧ c2 = _ := by simpa using e2
          obtain ⟨g2b, hp2, x2⟩ := hc2 j hjl
          subst hp1 hp2
          clear h5 h6 h7 h8 hc1 hc2 e1 e2
          go_wp2_with fail
          go_quiet (fail)
          go_wp2_with fail
          go_roundg (L.length - (j + 1))
          case measure => rw [HKJ.out]; omega
          case rel => exact ⟨j + 1, by omega, rfl, by go_num, HX.out.drewN _⟩
        · have g1 : decide ((j : Int) < (L.length : Int)) = false := by simp; omega
          have g1' : decide (j < L.length) = false := by simp; omega
          go_wp2_with fail
          go_roundg (nl.length - (i + 1))
          case measure => rw [HKK.out]; omega
          case rel => exact ⟨i + 1, s4, by omega, rfl, by go_num, HX.out.fst.assoc'.fst⟩
    · have d1 : decide ((i : Int) < (nl.length : Int)) = false := by simp; omega
      have d1' : decide (i < nl.length) = false := by simp; omega
      go_wp2_with fail
      go_ret
      exact ⟨rfl, s1, HX.out⟩
end Go.Proofs.YtbodobdllchmgaaDoor
namespace Go.Proofs.YtbodobdllchmgaaDoor
open Go Go.RowKit
set_option linter.unusedVariables false

set_option maxHeartbeats 2000000 in
set_option maxRecDepth 100000 in
theorem came_walk (W : World) (w at_ : Int) (h0 : 0 ≤ w) (h1 : w ≤ 1099511627776) :
    Calls Tryd.prog 67 #[.int .u64 w, .int .u64 0, .int .i64 at_] W fun e W' => e = .returned (.int .i64 (if at_ < w then 2 else 1)) ∧ W' = W := by
  have HS := Lib.hid (split_walk W w h0 (by omega))
  have k2 : wTime w = w := by unfold wTime; rw [if_pos (by omega)]
  have k3 : wOwner w = 0 := by unfold wOwner; rw [if_neg (by omega)]
  have k1 : wKind w = 1 ∨ wKind w = 2 := by
    unfold wKind
    by_cases c1 : w < 1099511627776
    · left; rw [if_pos c1]
    · right; rw [if_neg c1, if_pos (by omega)]
  rw [k2, k3] at HS
  generalize wKind w = kd at *
  have d1 : decide (kd = 3) = false := by simp only [decide_eq_false_iff_not]; omega
  have d1' : (kd == 3) = false := by simp only [beq_eq_false_iff_ne]; omega
  clear k1 k2 k3
  by_cases hc : at_ < w
  · have d2 : decide (w > at_) = true := by simpa using hc
    rw [if_pos hc]
    go_enter Tryd.func67, Tryd.ntmps67
    go_wp2_with fail
    refine HS.out.mono ?_
    rintro e W' ⟨rfl, rfl⟩
    go_wp2_with fail
    go_ret
    exact ⟨rfl, rfl⟩
  · have d2 : decide (w > at_) = false := by simpa using hc
    rw [if_neg hc]
    go_enter Tryd.func67, Tryd.ntmps67
    go_wp2_with fail
    refine HS.out.mono ?_
    rintro e W' ⟨rfl, rfl⟩
    go_wp2_with fail
    go_ret
    exact ⟨rfl, rfl⟩

/-- Is a version of these words seen at a time? -/
def seenB (at_ bg en : Int) : Bool := decide (bg ≤ at_) && decide (at_ < en)

set_option maxHeartbeats 4000000 in
set_option maxRecDepth 100000 in
theorem sees_word (W : World) (at_ bg en : Int) (ha0 : 0 ≤ at_) (ha1 : at_ < 1099511627776) (hb0 : 0 ≤ bg) (hb1 : bg < 1099511627776) (he0 : 0 ≤ en) (he1 : en ≤ 1099511627776) :
    Calls Tryd.prog 48 #[.int .i64 0, .int .i64 at_, .int .u64 bg, .int .u64 en, .int .u64 0, .int .u64 0] W fun e W' => e = .returned (.tuple #[.int .i64 (if seenB at_ bg en = true then 1 else 2), .int .i64 0]) ∧ W' = W := by
  have HB := Lib.hid (split_walk W bg hb0 (by omega))
  have HE := Lib.hid (split_walk W en he0 (by omega))
  have HT := Lib.hid (istime_walk W at_)
  rw [show (decide (0 ≤ at_) && decide (at_ < 1099511627776)) = true by simp; omega] at HT
  have HU := Lib.hid (unstate_walk W 0 (by omega) (by omega))
  rw [show uOk 0 = true by decide] at HU
  have HC1 := Lib.hid (came_walk W bg at_ hb0 (by omega))
  have HC2 := Lib.hid (came_walk W en at_ he0 he1)
  have k1 : wKind bg = 1 := by unfold wKind; rw [if_pos hb1]
  have k4 : wKind en = 1 ∨ wKind en = 2 := by
    unfold wKind
    by_cases c1 : en < 1099511627776
    · left; rw [if_pos c1]
    · right; rw [if_neg c1, if_pos (by omega)]
  rw [k1] at HB
  generalize wKind en = ke at *
  generalize wTime bg = tb at *
  generalize wOwner bg = nb at *
  generalize wTime en = te at *
  generalize wOwner en = ne at *
  have d1 : decide (ke = 0) = false := by simp only [decide_eq_false_iff_not]; omega
  have d1' : (ke == 0) = false := by simp only [beq_eq_false_iff_ne]; omega
  have d2 : decide (ke = 3) = false := by simp only [decide_eq_false_iff_not]; omega
  have d2' : (ke == 3) = false := by simp only [beq_eq_false_iff_ne]; omega
  clear k1 k4
  unfold seenB
  by_cases hc1 : at_ < bg
  · rw [show (decide (bg ≤ at_) && decide (at_ < en)) = false by simp; omega]
    rw [if_pos hc1] at HC1
    go_enter Tryd.func48, Tryd.ntmps48
    go_wp2_with fail
    refine HB.out.mono ?_
    rintro e W' ⟨rfl, rfl⟩
    go_wp2_with fail
    refine HE.out.mono ?_
    rintro e W' ⟨rfl, rfl⟩
    go_wp2_with fail
    refine HT.out.mono ?_
    rintro e W' ⟨rfl, rfl⟩
    go_wp2_with fail
    refine HU.out.mono ?_
    rintro e W' ⟨a1, b1, rfl, rfl⟩
    go_wp2_with fail
    refine HU.out.mono ?_
    rintro e W' ⟨a2, b2, rfl, rfl⟩
    go_wp2_with fail
    refine HC1.out.mono ?_
    rintro e W' ⟨rfl, rfl⟩
    go_wp2_with fail
    go_ret2
    exact ⟨rfl, rfl⟩
  · rw [if_neg hc1] at HC1
    by_cases hc2 : at_ < en
    · rw [show (decide (bg ≤ at_) && decide (at_ < en)) = true by simp; omega]
      rw [if_pos hc2] at HC2
      go_enter Tryd.func48, Tryd.ntmps48
      go_wp2_with fail
      refine HB.out.mono ?_
      rintro e W' ⟨rfl, rfl⟩
      go_wp2_with fail
      refine HE.out.mono ?_
      rintro e W' ⟨rfl, rfl⟩
      go_wp2_with fail
      refine HT.out.mono ?_
      rintro e W' ⟨rfl, rfl⟩
      go_wp2_with fail
      refine HU.out.mono ?_
      rintro e W' ⟨a1, b1, rfl, rfl⟩
      go_wp2_with fail
      refine HU.out.mono ?_
      rintro e W' ⟨a2, b2, rfl, rfl⟩
      go_wp2_with fail
      refine HC1.out.mono ?_
      rintro e W' ⟨rfl, rfl⟩
      go_wp2_with fail
      refine HC2.out.mono ?_
      rintro e W' ⟨rfl, rfl⟩
      go_wp2_with fail
      go_ret2
      exact ⟨rfl, rfl⟩
    · rw [show (decide (bg ≤ at_) && decide (at_ < en)) = false by simp; omega]
      rw [if_neg hc2] at HC2
      go_enter Tryd.func48, Tryd.ntmps48
      go_wp2_with fail
      refine HB.out.mono ?_
      rintro e W' ⟨rfl, rfl⟩
      go_wp2_with fail
      refine HE.out.mono ?_
      rintro e W' ⟨rfl, rfl⟩
      go_wp2_with fail
      refine HT.out.mono ?_
      rintro e W' ⟨rfl, rfl⟩
      go_wp2_with fail
      refine HU.out.mono ?_
      rintro e W' ⟨a1, b1, rfl, rfl⟩
      go_wp2_with fail
      refine HU.out.mono ?_
      rintro e W' ⟨a2, b2, rfl, rfl⟩
      go_wp2_with fail
      refine HC1.out.mono ?_
      rintro e W' ⟨rfl, rfl⟩
      go_wp2_with fail
      refine HC2.out.mono ?_
      rintro e W' ⟨rfl, rfl⟩
      go_wp2_with fail
      go_ret2
      exact ⟨rfl, rfl⟩

/-- The first version of a chain that is seen at a time; 0: none. -/
def seesF (A : ASt) (at_ : Int) : List Nat → Nat
  | [] => 0
  | v :: l => if seenB at_ (bgn A v) (enn A v) = true then v else seesF A at_ l

/-- All words of a chain are times, or no end. -/
def Timely (A : ASt) (l : List Nat) : Prop := ∀ v ∈ l, 0 ≤ bgn A v ∧ bgn A v < 1099511627776 ∧ 0 ≤ enn A v ∧ enn A v ≤ 1099511627776

variable {o : List Nat} {w0 w : World} {b : Nat} {A : ASt} {E : Part} {ch : Nat → List Nat}

theorem store_lift {f : FuncId} {args : Array Value} {v : Value} {Q : ASt → Prop} (h : Has o w0 w ((Part.store b A).sep E))
    (c : ∀ o1, Has o1 w w (.store b A) → Calls Tryd.prog f args w fun e w' => e = .returned v ∧ ∃ A', Q A' ∧ Has o1 w w' (.store b A')) :
    Calls Tryd.prog f args w fun e w' => e = .returned v ∧ ∃ A', Q A' ∧ Has o w0 w' ((Part.store b A').sep E) := by
  obtain ⟨o1, h1, _, _, b1⟩ := h.left
  refine (c o1 h1).mono ?_
  rintro e w' ⟨rfl, A', hq, h'⟩
  exact ⟨rfl, A', hq, b1 _ _ h'⟩

set_option maxHeartbeats 4000000 in
set_option maxRecDepth 100000 in
theorem sees_walk (h : Has o w0 w ((Part.store b A).sep E)) (hc : Chs A ch) (x : Int) (at_ : Int) (ha0 : 0 ≤ at_) (ha1 : at_ < 1099511627776) (ht : Timely A (chL A ch x)) (hV : A.nV ≤ 1000000) :
    Calls Tryd.prog 24 #[P0 b, .int .i64 x, .int .i64 at_] w fun e w' => e = .returned (.int .i64 (seesF A at_ (chL A ch x) : Nat)) ∧ ∃ s, Has o w0 w' ((Part.store b (A.at s)).sep E) := by
  have HCH := Lib.hid (show Calls Tryd.prog 45 #[P0 b, .int .i64 x] w fun e w' => ∃ lv st, e = .returned lv ∧ Has o w0 w' (((Part.store b (A.at st)).sep E).sep (.nums lv (chL A ch x))) from by
    obtain ⟨o1, h1, _, _, b1⟩ := h.left
    refine (chain_any h1 hc x hV).mono ?_
    rintro e w' ⟨lv, st, rfl, h'⟩
    exact ⟨lv, st, rfl, Has.pull (b1 _ _ h')⟩)
  have HLK := Lib.hid (show ∀ d ∈ chL A ch x, 1 ≤ d ∧ A.ver (d - 1) = true from fun d hd => by
    unfold chL at hd
    split at hd
    · rename_i hN
      obtain ⟨j, rfl, hj, ej, _⟩ := isN_head hc hN
      rw [ej] at hd
      exact (hc.link j hj).mem d hd
    · simp at hd)
  have HT := Lib.hid ht
  obtain ⟨R, hR⟩ : ∃ R, seesF A at_ (chL A ch x) = R := ⟨_, rfl⟩
  rw [hR]
  have HR0 := Lib.hid hR
  clear h hc ht hR
  go_enter Tryd.func24, Tryd.ntmps24
  go_wp2_with fail
  refine HCH.out.mono ?_
  rintro e w1 ⟨lv, st, rfl, hX⟩
  have HX := Lib.hid hX
  obtain ⟨_, h7, _⟩ := hX.right
  obtain ⟨lp, lc, rfl, hs9, _⟩ := nums_row h7
  obtain ⟨L, hL⟩ : ∃ L, chL A ch x = L := ⟨_, rfl⟩
  rw [hL] at HX HLK HT hs9
  have HR := Lib.hid (show R = seesF A at_ L by rw [← hL, HR0.out])
  rw [hL]
  clear hL hX h7 HCH
  go_wp2_with fail
  go_loopg [8] L.length (fun k iv wr => ∃ (i : Nat) (s : Int), i ≤ L.length ∧ k = L.length - i ∧ iv = .int .i64 i ∧ R = seesF A at_ (L.drop i) ∧ Has o w0 wr (((Part.store b (A.at s)).sep E).sep (.nums (.slice lp L.length lc) L)))
  case atStart => exact ⟨0, st, Nat.zero_le _, rfl, rfl, HR.out, HX.out⟩
  case round =>
    clear HX HR
    obtain ⟨i, s, hi, hk, rfl, hr, hX⟩ := hrel
    have HKK := Lib.hid hk
    have HR := Lib.hid hr
    have HX := Lib.hid hX
    clear hk hr hX
    by_cases hlt : i < L.length
    · have d1 : decide ((i : Int) < (L.length : Int)) = true := by simp; omega
      have d1' : decide (i < L.length) = true := by simp; omega
      have q1 : 0 ≤ (i : Int) ∧ (i : Int) < (L.length : Int) := by omega
      have hm : L.getD i 0 ∈ L := by rw [List.getD_eq_getElem?_getD, List.getElem?_eq_getElem hlt]; exact List.getElem_mem hlt
      obtain ⟨d, hd1, hd2⟩ : ∃ d, L.getD i 0 = d + 1 ∧ A.ver d = true := by
        have := HLK.out _ hm
        exact ⟨L.getD i 0 - 1, by omega, this.2⟩
      rw [hd1] at hm
      obtain ⟨t0, t1, t2, t3⟩ := HT.out _ hm
      have HDR := Lib.hid (show L.drop i = (d + 1) :: L.drop (i + 1) from by
        rw [← hd1, List.getD_eq_getElem?_getD, List.getElem?_eq_getElem hlt]
        exact List.drop_eq_getElem_cons hlt)
      obtain ⟨_, h7, _⟩ := HX.out.right
      obtain ⟨_, _, e1, _, hc1⟩ := nums_row h7
      obtain ⟨rfl, rfl⟩ : lp = _ ∧ lc = _ := by simpa using e1
      obtain ⟨g1, rfl, c1⟩ := hc1 i hlt
      rw [hd1] at c1
      have e9 : ((d + 1 : Nat) : Int) = (d : Int) + 1 := rfl
      rw [e9] at c1
      obtain ⟨bg, hbg⟩ : ∃ y, bgn A (d + 1) = y := ⟨_, rfl⟩
      obtain ⟨en, hen⟩ : ∃ y, enn A (d + 1) = y := ⟨_, rfl⟩
      have HBG := Lib.hid hbg
      have HEN := Lib.hid hen
      rw [hbg] at t0 t1
      rw [hen] at t2 t3
      clear hbg hen
      have HB := Lib.hid (store_lift (v := .tuple #[.int .u64 bg, .int .i64 0]) (Q := fun A' => ∃ s', A' = A.at s') HX.out.assoc fun o1 h1 => (begin_at h1 d (A.V d).begin_ (some_ofV (A := A.at s) hd2).1).mono (fun e w' he => ⟨by rw [← HBG.out]; exact he.1, _, ⟨_, rfl⟩, he.2⟩))
      clear HX h7 hc1 hm hd1 e1
      go_wp2_with fail
      refine HB.out.mono ?_
      rintro e w4 ⟨rfl, _, ⟨s4, rfl⟩, hX⟩
      have c4 : w4.cell? ⟨g1, i, none⟩ = some (.int .i64 ((d : Int) + 1)) := by
        obtain ⟨_, h6, _⟩ := hX.right
        obtain ⟨_, h7, _⟩ := h6.right
        obtain ⟨_, _, e1, _, hc1⟩ := nums_row h7
        obtain ⟨g2, hg2, c2⟩ := hc1 i hlt
        obtain ⟨e2, _⟩ : some (⟨g1, 0, none⟩ : Addr) = _ ∧ lc = _ := by simpa using e1
        rw [← e2] at hg2
        obtain rfl : g1 = g2 := by simpa using hg2
        rw [show L.getD i 0 = d + 1 from by
          have := HDR.out
          rw [List.drop_eq_getElem_cons hlt] at this
          rw [List.getD_eq_getElem?_getD, List.getElem?_eq_getElem hlt]
          exact (List.cons.inj this).1] at c2
        exact c2
      have HE := Lib.hid (store_lift (v := .tuple #[.int .u64 en, .int .i64 0]) (Q := fun A' => ∃ s', A' = A.at s') hX fun o1 h1 => (end_at h1 d (A.V d).end_ (some_ofV (A := A.at s4) hd2).2.1).mono (fun e w' he => ⟨by rw [← HEN.out]; exact he.1, _, ⟨_, rfl⟩, he.2⟩))
      clear hX HB c1
      go_wp2_with fail
      refine HE.out.mono ?_
      rintro e w5 ⟨rfl, _, ⟨s5, rfl⟩, hX⟩
      have HX5 := Lib.hid hX.assoc'
      have c5 : w5.cell? ⟨g1, i, none⟩ = some (.int .i64 ((d : Int) + 1)) := by
        obtain ⟨_, h6, _⟩ := hX.right
        obtain ⟨_, h7, _⟩ := h6.right
        obtain ⟨_, _, e1, _, hc1⟩ := nums_row h7
        obtain ⟨g2, hg2, c2⟩ := hc1 i hlt
        obtain ⟨e2, _⟩ : some (⟨g1, 0, none⟩ : Addr) = _ ∧ lc = _ := by simpa using e1
        rw [← e2] at hg2
        obtain rfl : g1 = g2 := by simpa using hg2
        rw [show L.getD i 0 = d + 1 from by
          have := HDR.out
          rw [List.drop_eq_getElem_cons hlt] at this
          rw [List.getD_eq_getElem?_getD, List.getElem?_eq_getElem hlt]
          exact (List.cons.inj this).1] at c2
        exact c2
      have HSW := Lib.hid (sees_word w5 at_ bg en ha0 ha1 t0 t1 t2 t3)
      have HRS := Lib.hid (show R = if seenB at_ bg en = true then d + 1 else seesF A at_ (L.drop (i + 1)) from by rw [HR.out, HDR.out, ← HBG.out, ← HEN.out]; rfl)
      clear hX HE c4 t0 t1 t2 t3
      cases hsb : seenB at_ bg en
      · rw [hsb] at HSW HRS
        go_wp2_with fail
        refine HSW.out.mono ?_
        rintro e w6 ⟨rfl, rfl⟩
        go_wp2_with fail
        go_roundg (L.length - (i + 1))
        case measure => rw [HKK.out]; omega
        case rel => exact ⟨i + 1, s5, by omega, rfl, by go_num, by rw [HRS.out, if_neg (by simp)], HX5.out⟩
      · rw [hsb] at HSW HRS
        have HRR := Lib.hid (show R = d + 1 from by rw [HRS.out, if_pos rfl])
        go_wp2_with fail
        refine HSW.out.mono ?_
        rintro e w6 ⟨rfl, rfl⟩
        go_wp2_with fail
        go_ret
        refine ⟨?_, s5, HX5.out.fst⟩
        rw [HRR.out]; first | rfl | simp
    · have d1 : decide ((i : Int) < (L.length : Int)) = false := by simp; omega
      have d1' : decide (i < L.length) = false := by simp; omega
      have HRR := Lib.hid (show R = 0 from by rw [HR.out, List.drop_of_length_le (by omega)]; rfl)
      go_wp2_with fail
      go_ret
      refine ⟨?_, s, HX.out.fst⟩
      rw [HRR.out]; first | rfl | simp
end Go.Proofs.YtbodobdllchmgaaDoor
