/- The plain law of StoreApart: which versions stand in a store that was filled by turns, what Cut and Drop leave. Nothing is claimed of a program here. -/
import Derived.Test.YtlaffmdflleeeaaDoorStoreUsed
import Derived.Test.YtlaffmdflleeeaaDoorStoreCut
namespace Go.Proofs.YtlaffmdflleeeaaDoor
open Go Go.RowKit
set_option linter.unusedVariables false

/-- The number at the head of the first node, whose versions stand at 2·lo .. 2·(hi-1). -/
def xh (lo hi : Nat) : Int := if lo < hi then 2 * (hi : Int) - 1 else 0
/-- Its chain. -/
def xdn (lo : Nat) : Nat → List Nat
  | 0 => []
  | h + 1 => if lo ≤ h then (2 * h + 1) :: xdn lo h else []
/-- The second node's chain. -/
def ydn : Nat → List Nat
  | 0 => []
  | h + 1 => (2 * h + 2) :: ydn h

theorem xdn_len (lo h : Nat) : (xdn lo h).length = h - lo := by
  induction h with
  | zero => simp [xdn]
  | succ h ih =>
    unfold xdn
    by_cases e : lo ≤ h
    · rw [if_pos e, List.length_cons, ih]; omega
    · rw [if_neg e]; simp; omega
theorem xdn_get (lo h c : Nat) (hc : c < h - lo) : (xdn lo h)[c]? = some (2 * (h - c) - 1) := by
  induction h generalizing c with
  | zero => omega
  | succ h ih =>
    unfold xdn
    rw [if_pos (by omega)]
    cases c with
    | zero => simp; omega
    | succ c =>
      rw [List.getElem?_cons_succ, ih c (by omega)]
      congr 1; omega
theorem xdn_mem (lo h v : Nat) (hv : v ∈ xdn lo h) : ∃ q, q < h ∧ lo ≤ q ∧ v = 2 * q + 1 := by
  induction h with
  | zero => simp [xdn] at hv
  | succ h ih =>
    unfold xdn at hv
    by_cases e : lo ≤ h
    · rw [if_pos e] at hv
      rcases List.mem_cons.1 hv with rfl | hv
      · exact ⟨h, by omega, e, rfl⟩
      · obtain ⟨q, h1, h2, h3⟩ := ih hv
        exact ⟨q, by omega, h2, h3⟩
    · rw [if_neg e] at hv; simp at hv
theorem ydn_len (h : Nat) : (ydn h).length = h := by
  induction h with
  | zero => rfl
  | succ h ih => unfold ydn; rw [List.length_cons, ih]
theorem ydn_get (h c : Nat) (hc : c < h) : (ydn h)[c]? = some (2 * (h - c)) := by
  induction h generalizing c with
  | zero => omega
  | succ h ih =>
    unfold ydn
    cases c with
    | zero => simp; omega
    | succ c =>
      rw [List.getElem?_cons_succ, ih c (by omega)]
      congr 1; omega

/-- A store with two nodes, of which the first has its versions at 2·lo .. 2·(hi-1), the other all m at odd places. -/
structure ApSt (m lo hi : Nat) (A : ASt) : Prop where
  nN : A.nN = 2
  nV : A.nV = 2 * m
  le : lo ≤ hi
  top : hi ≤ m
  hx : A.at_ (.head 0) = some (xh lo hi)
  hy : A.at_ (.head 1) = some (2 * (m : Int))
  ye : ∀ j, j < m → A.at_ (.end_ (2 * j + 1)) = some 1099511627776
  yn : ∀ j, j < m → A.at_ (.next (2 * j + 1)) = some (2 * (j : Int))
  xn : ∀ j, lo ≤ j → j < hi → A.at_ (.next (2 * j)) = some (xh lo j)

theorem at_begin_val {A : ASt} {i : Nat} (hv : A.ver i = true) : A.at_ (.begin_ i) = some (A.V i).begin_ := by show (if A.ver i = true then some (A.V i).begin_ else none) = _; rw [if_pos hv]
theorem at_end_val {A : ASt} {i : Nat} (hv : A.ver i = true) : A.at_ (.end_ i) = some (A.V i).end_ := by show (if A.ver i = true then some (A.V i).end_ else none) = _; rw [if_pos hv]
theorem at_next_val {A : ASt} {i : Nat} (hv : A.ver i = true) : A.at_ (.next i) = some (A.V i).next := by show (if A.ver i = true then some (A.V i).next else none) = _; rw [if_pos hv]

theorem next_in {A : ASt} {i : Nat} {v : Int} (h : A.at_ (.next i) = some v) : A.ver i = true ∧ (A.V i).next = v := by
  have hv := at_next h
  exact ⟨hv, Option.some.inj ((at_next_val hv).symm.trans h)⟩

theorem chain_zero (A : ASt) (f : Nat) (n : Int) (h : n ≤ 0) : chainF A f n = [] := chainF_stop (by omega)

theorem ApSt.ychain {m lo hi : Nat} {A : ASt} (h : ApSt m lo hi A) (t f : Nat) (ht : t ≤ m) (hf : t ≤ f) : chainF A f (2 * (t : Int)) = ydn t := by
  induction t generalizing f with
  | zero => exact chain_zero A f _ (by omega)
  | succ t ih =>
    obtain ⟨f, rfl⟩ : ∃ f', f = f' + 1 := ⟨f - 1, by omega⟩
    obtain ⟨hv, hn⟩ := next_in (h.yn t (by omega))
    rw [show (2 * ((t + 1 : Nat) : Int)) = ((2 * t + 1 : Nat) : Int) + 1 by omega, chainF_go hv, hn, ih f (by omega) (by omega)]
    rfl
theorem ApSt.xchain {m lo hi : Nat} {A : ASt} (h : ApSt m lo hi A) (t f : Nat) (ht : t ≤ hi) (hf : t - lo ≤ f) : chainF A f (xh lo t) = xdn lo t := by
  induction t generalizing f with
  | zero =>
    rw [show xh lo 0 = 0 from if_neg (by omega)]
    exact chain_zero A f _ (by omega)
  | succ t ih =>
    by_cases e : lo ≤ t
    · obtain ⟨f, rfl⟩ : ∃ f', f = f' + 1 := ⟨f - 1, by omega⟩
      obtain ⟨hv, hn⟩ := next_in (h.xn t e (by omega))
      rw [show xh lo (t + 1) = ((2 * t : Nat) : Int) + 1 by rw [xh, if_pos (by omega)]; omega, chainF_go hv, hn, ih f (by omega) (by omega)]
      show _ = if lo ≤ t then _ else _
      rw [if_pos e]
    · rw [show xh lo (t + 1) = 0 from if_neg (by omega)]
      show _ = if lo ≤ t then _ else _
      rw [if_neg e]
      exact chain_zero A f _ (by omega)

theorem ApSt.xnx {m lo hi : Nat} {A : ASt} (h : ApSt m lo hi A) : A.nxOk (xh lo hi) := by
  have := h.le
  by_cases e : lo < hi
  · refine .inr ⟨2 * (hi - 1), ?_, at_next (h.xn (hi - 1) (by omega) (by omega))⟩
    rw [xh, if_pos e]; omega
  · exact .inl (if_neg e)
theorem ApSt.ynx {m lo hi : Nat} {A : ASt} (h : ApSt m lo hi A) : A.nxOk (2 * (m : Int)) := by
  by_cases e : m = 0
  · exact .inl (by omega)
  · exact .inr ⟨2 * (m - 1) + 1, by omega, at_next (h.yn (m - 1) (by omega))⟩

/-- What a further version leaves. -/
theorem addVer_at (A : ASt) (st : Int) (val : ByteArray) (bg nx : Int) (l : Loc) (v : Int) (h : A.at_ l = some v) : (A.addVer st val bg nx).at_ l = some v := by
  have hver : ∀ i, A.ver i = true → (A.addVer st val bg nx).ver i = true ∧ (A.addVer st val bg nx).V i = A.V i := fun i hi => by
    have hl := ver_lt hi
    unfold ASt.ver at hi ⊢
    unfold ASt.addVer
    simp only
    rw [if_neg (by omega)]
    refine ⟨?_, rfl⟩
    simp at hi ⊢
    exact ⟨by omega, hi.2⟩
  cases l with
  | head i => exact h
  | lock i => exact h
  | state i => exact h
  | begin_ i =>
    obtain ⟨h1, h2⟩ := hver i (at_begin h)
    show (if _ then _ else _) = _
    rw [if_pos h1, h2]
    exact (at_begin_val (at_begin h)).symm.trans h
  | end_ i =>
    obtain ⟨h1, h2⟩ := hver i (at_end h)
    show (if _ then _ else _) = _
    rw [if_pos h1, h2]
    exact (at_end_val (at_end h)).symm.trans h
  | next i =>
    obtain ⟨h1, h2⟩ := hver i (at_next h)
    show (if _ then _ else _) = _
    rw [if_pos h1, h2]
    exact (at_next_val (at_next h)).symm.trans h
theorem addVer_new (A : ASt) (st : Int) (val : ByteArray) (bg nx : Int) : (A.addVer st val bg nx).ver A.nV = true ∧ (A.addVer st val bg nx).at_ (.begin_ A.nV) = some bg ∧ (A.addVer st val bg nx).at_ (.end_ A.nV) = some 1099511627776 ∧ (A.addVer st val bg nx).at_ (.next A.nV) = some nx := by
  have hv : (A.addVer st val bg nx).ver A.nV = true := by unfold ASt.ver ASt.addVer; simp
  have e : (A.addVer st val bg nx).V A.nV = ⟨val, bg, 1099511627776, nx, false⟩ := by unfold ASt.addVer; simp
  refine ⟨hv, ?_, ?_, ?_⟩ <;> (show (if _ then _ else _) = _) <;> rw [if_pos hv, e]
theorem addVer_used (A : ASt) (st : Int) (val : ByteArray) (bg nx : Int) : (A.addVer st val bg nx).used = A.used + 3 := by
  unfold ASt.used
  have e : cntB (fun i => !((A.addVer st val bg nx).V i).gone) (A.nV + 1) = cntB (fun i => !(A.V i).gone) A.nV + 1 := by
    have same : ∀ n, n ≤ A.nV → cntB (fun i => !((A.addVer st val bg nx).V i).gone) n = cntB (fun i => !(A.V i).gone) n := by
      intro n
      induction n with
      | zero => intro _; rfl
      | succ n ih =>
        intro hn
        unfold cntB
        rw [ih (by omega)]
        have : (A.addVer st val bg nx).V n = A.V n := by unfold ASt.addVer; simp only; rw [if_neg (by omega)]
        rw [this]
    rw [show ∀ p : Nat → Bool, cntB p (A.nV + 1) = cntB p A.nV + if p A.nV = true then 1 else 0 from fun _ => rfl, same _ (Nat.le_refl _)]
    have : (A.addVer st val bg nx).V A.nV = ⟨val, bg, 1099511627776, nx, false⟩ := by unfold ASt.addVer; simp
    rw [this]; rfl
  show 2 * A.nN + 3 * cntB _ (A.nV + 1) + _ = _
  rw [e]
  show 2 * A.nN + 3 * _ + cntB (fun i => !(A.T i).2) A.nT = _
  omega

/-- A fresh store with two nodes. -/
theorem ApSt.start (ab : Nat) (s1 s2 : Int) : ApSt 0 0 0 (((newSt ab 1000 0).addNode s1).addNode s2) := by
  refine ⟨rfl, rfl, Nat.le_refl _, Nat.le_refl _, rfl, rfl, fun j hj => ?_, fun j hj => ?_, fun j h0 hj => ?_⟩ <;> omega

theorem nxOk_addVer {A : ASt} {n : Int} (h : A.nxOk n) (st : Int) (val : ByteArray) (bg nx : Int) : (A.addVer st val bg nx).nxOk n := by
  rcases h with h | ⟨j, h1, h2⟩
  · exact .inl h
  · refine .inr ⟨j, h1, ?_⟩
    have hl := ver_lt h2
    unfold ASt.ver at h2 ⊢
    unfold ASt.addVer
    simp only
    rw [if_neg (by omega)]
    simp at h2 ⊢
    exact ⟨by omega, h2.2⟩

theorem set_other {A : ASt} {l l' : Loc} {u v : Int} (h : A.at_ l' = some v) (hne : l' ≠ l) : (A.set l u).at_ l' = some v := by rw [A.at_set, if_neg hne]; exact h
theorem set_here {A : ASt} {l : Loc} {u v : Int} (h : A.at_ l = some v) : (A.set l u).at_ l = some u := by rw [A.at_set, if_pos rfl, h]; rfl

/-- A round: a version more for each. -/
theorem ApSt.grow {m : Nat} {A : ASt} (h : ApSt m 0 m A) (s1 s2 : Int) (val : ByteArray) (bg : Int) :
    ApSt (m + 1) 0 (m + 1) ((((((A.addVer s1 val bg (xh 0 m)).addVer s2 val bg (2 * (m : Int))).step).set (.head 0) (2 * (m : Int) + 1)).step).set (.head 1) (2 * (m : Int) + 2)) := by
  have hV1 : (A.addVer s1 val bg (xh 0 m)).nV = 2 * m + 1 := by show A.nV + 1 = _; rw [h.nV]
  obtain ⟨v1, b1, e1, n1⟩ := addVer_new A s1 val bg (xh 0 m)
  obtain ⟨v2, b2, e2, n2⟩ := addVer_new (A.addVer s1 val bg (xh 0 m)) s2 val bg (2 * (m : Int))
  rw [hV1] at v2 b2 e2 n2
  rw [h.nV] at v1 b1 e1 n1
  have old : ∀ l v, A.at_ l = some v → ((A.addVer s1 val bg (xh 0 m)).addVer s2 val bg (2 * (m : Int))).at_ l = some v := fun l v hl => addVer_at _ _ _ _ _ _ _ (addVer_at _ _ _ _ _ _ _ hl)
  have put : ∀ l v, ((A.addVer s1 val bg (xh 0 m)).addVer s2 val bg (2 * (m : Int))).at_ l = some v → l ≠ .head 0 → l ≠ .head 1 → ((((((A.addVer s1 val bg (xh 0 m)).addVer s2 val bg (2 * (m : Int))).step).set (.head 0) (2 * (m : Int) + 1)).step).set (.head 1) (2 * (m : Int) + 2)).at_ l = some v := by
    intro l v hl h0 h1
    refine set_other ?_ h1
    show ((((A.addVer s1 val bg (xh 0 m)).addVer s2 val bg (2 * (m : Int))).step).set (.head 0) (2 * (m : Int) + 1)).at_ l = some v
    exact set_other hl h0
  refine ⟨?_, ?_, by omega, by omega, ?_, ?_, fun j hj => ?_, fun j hj => ?_, fun j h0 hj => ?_⟩
  · rw [ASt.nN_set]; show (ASt.set _ _ _).nN = _; rw [ASt.nN_set]; exact h.nN
  · rw [ASt.nV_set]; show (ASt.set _ _ _).nV = _; rw [ASt.nV_set]; show A.nV + 1 + 1 = _; rw [h.nV]; omega
  · refine set_other ?_ (by simp)
    rw [show xh 0 (m + 1) = 2 * (m : Int) + 1 by rw [xh, if_pos (by omega)]; omega]
    exact set_here (v := xh 0 m) (old _ _ h.hx)
  · rw [show (2 * ((m + 1 : Nat) : Int)) = 2 * (m : Int) + 2 by omega]
    refine set_here (v := 2 * (m : Int)) ?_
    have h5 := set_other (l := .head 0) (u := 2 * (m : Int) + 1) (old _ _ h.hy) (by simp)
    exact h5
  · refine put _ _ ?_ (by simp) (by simp)
    by_cases e : j = m
    · subst e; exact e2
    · exact old _ _ (h.ye j (by omega))
  · refine put _ _ ?_ (by simp) (by simp)
    by_cases e : j = m
    · subst e; exact n2
    · exact old _ _ (h.yn j (by omega))
  · refine put _ _ ?_ (by simp) (by simp)
    by_cases e : j = m
    · subst e; exact addVer_at _ _ _ _ _ _ _ n1
    · exact old _ _ (h.xn j h0 (by omega))
theorem ApSt.growUsed {m : Nat} {A : ASt} (s1 s2 : Int) (val : ByteArray) (bg n1 n2 u1 u2 : Int) :
    ((((((A.addVer s1 val bg n1).addVer s2 val bg n2).step).set (.head 0) u1).step).set (.head 1) u2).used = A.used + 6 ∧ ((((((A.addVer s1 val bg n1).addVer s2 val bg n2).step).set (.head 0) u1).step).set (.head 1) u2).size = A.size := by
  constructor
  · rw [ASt.used_set]
    show (ASt.set _ _ _).used = _
    rw [ASt.used_set]
    show ((A.addVer s1 val bg n1).addVer s2 val bg n2).used = _
    rw [addVer_used, addVer_used]
  · rw [ASt.size_set]
    show (ASt.set _ _ _).size = _
    rw [ASt.size_set]; rfl

/-- Other numbers of steps. -/
theorem ApSt.at {m lo hi : Nat} {A : ASt} (h : ApSt m lo hi A) (st : Int) : ApSt m lo hi (A.at st) := ⟨h.nN, h.nV, h.le, h.top, h.hx, h.hy, h.ye, h.yn, h.xn⟩

theorem goneV_keep {A : ASt} {i : Nat} {l : Loc} {v : Int} (h : A.at_ l = some v) (h1 : l ≠ .begin_ i) (h2 : l ≠ .end_ i) (h3 : l ≠ .next i) : (A.goneV i).at_ l = some v := by
  have hver : ∀ j, j ≠ i → A.ver j = true → (A.goneV i).ver j = true ∧ (A.goneV i).V j = A.V j := fun j hj hv => by
    rw [goneV_ver, hv]
    refine ⟨by simp [hj], ?_⟩
    unfold ASt.goneV; simp only; rw [if_neg hj]
  cases l with
  | head i => exact h
  | lock i => exact h
  | state i => exact h
  | begin_ j =>
    obtain ⟨g1, g2⟩ := hver j (fun e => h1 (by rw [e])) (at_begin h)
    show (if _ then _ else _) = _
    rw [if_pos g1, g2]
    exact (at_begin_val (at_begin h)).symm.trans h
  | end_ j =>
    obtain ⟨g1, g2⟩ := hver j (fun e => h2 (by rw [e])) (at_end h)
    show (if _ then _ else _) = _
    rw [if_pos g1, g2]
    exact (at_end_val (at_end h)).symm.trans h
  | next j =>
    obtain ⟨g1, g2⟩ := hver j (fun e => h3 (by rw [e])) (at_next h)
    show (if _ then _ else _) = _
    rw [if_pos g1, g2]
    exact (at_next_val (at_next h)).symm.trans h

/-- Which version a word is of. -/
def Loc.verOf : Loc → Option Nat
  | .begin_ i => some i
  | .end_ i => some i
  | .next i => some i
  | _ => none

theorem goneAll_keep {A : ASt} (cs : List Nat) {l : Loc} {v : Int} (h : A.at_ l = some v) (hn : ∀ i, l.verOf = some i → ∀ c ∈ cs, c - 1 ≠ i) : (A.goneAll cs).at_ l = some v := by
  unfold ASt.goneAll
  induction cs generalizing A with
  | nil => exact h
  | cons c cs ih =>
    refine ih ?_ (fun i hi d hd => hn i hi d (List.mem_cons_of_mem _ hd))
    refine goneV_keep h ?_ ?_ ?_ <;> (intro e; subst e; exact hn _ rfl c (List.mem_cons_self ..) rfl)
theorem goneAll_nN (A : ASt) (l : List Nat) : (A.goneAll l).nN = A.nN := by
  unfold ASt.goneAll
  induction l generalizing A with
  | nil => rfl
  | cons c cs ih => exact (ih _).trans rfl

/-- A cut behind the c-th of the first node. -/
theorem ApSt.cut {m q hi : Nat} {A : ASt} (h : ApSt m 0 hi A) (hq : q < hi) (st : Int) : ApSt m q hi (((A.at st).set (.next (2 * q)) 0).goneAll (xdn 0 q)) := by
  have keep : ∀ l v, A.at_ l = some v → l ≠ .next (2 * q) → (∀ i, l.verOf = some i → ∀ j, j < q → i ≠ 2 * j) → (((A.at st).set (.next (2 * q)) 0).goneAll (xdn 0 q)).at_ l = some v := by
    intro l v hl h1 h2
    refine goneAll_keep _ (set_other (A := A.at st) hl h1) fun i hi c hc => ?_
    obtain ⟨j, hj, _, rfl⟩ := xdn_mem _ _ _ hc
    have := h2 i hi j hj
    omega
  refine ⟨?_, ?_, by omega, h.top, ?_, ?_, fun j hj => ?_, fun j hj => ?_, fun j h0 hj => ?_⟩
  · rw [goneAll_nN, ASt.nN_set]; exact h.nN
  · rw [goneAll_nV, ASt.nV_set]; exact h.nV
  · refine keep _ _ ?_ (by simp) (fun i hi => by simp [Loc.verOf] at hi)
    rw [h.hx, xh, xh, if_pos (by omega), if_pos hq]
  · exact keep _ _ h.hy (by simp) (fun i hi => by simp [Loc.verOf] at hi)
  · exact keep _ _ (h.ye j hj) (by simp) (fun i hi k hk => by simp [Loc.verOf] at hi; omega)
  · exact keep _ _ (h.yn j hj) (by simp; omega) (fun i hi k hk => by simp [Loc.verOf] at hi; omega)
  · by_cases e : j = q
    · subst e
      rw [show xh j j = 0 from if_neg (by omega)]
      refine goneAll_keep _ ?_ fun i hi c hc => ?_
      · exact set_here (A := A.at st) (v := xh 0 j) (h.xn j (by omega) hj)
      · obtain ⟨k, hk, _, rfl⟩ := xdn_mem _ _ _ hc
        simp [Loc.verOf] at hi; omega
    · rw [show xh q j = xh 0 j by rw [xh, xh, if_pos (by omega), if_pos (by omega)]]
      exact keep _ _ (h.xn j (by omega) hj) (by simp; omega) (fun i hi k hk => by simp [Loc.verOf] at hi; omega)

/-- A drop. -/
theorem ApSt.drop {m lo hi : Nat} {A : ASt} (h : ApSt m lo (hi + 1) A) (hl : lo ≤ hi) (st : Int) : ApSt m lo hi (((A.at st).set (.head 0) (xh lo hi)).goneV (2 * hi)) := by
  have keep : ∀ l v, A.at_ l = some v → l ≠ .head 0 → (∀ i, l.verOf = some i → i ≠ 2 * hi) → (((A.at st).set (.head 0) (xh lo hi)).goneV (2 * hi)).at_ l = some v := by
    intro l v hl h1 h2
    refine goneV_keep (set_other (A := A.at st) hl h1) ?_ ?_ ?_ <;> (intro e; subst e; exact h2 _ rfl rfl)
  refine ⟨?_, ?_, hl, by have := h.top; omega, ?_, ?_, fun j hj => ?_, fun j hj => ?_, fun j h0 hj => ?_⟩
  · show (ASt.set _ _ _).nN = _; rw [ASt.nN_set]; exact h.nN
  · show (ASt.set _ _ _).nV = _; rw [ASt.nV_set]; exact h.nV
  · refine goneV_keep (set_here (A := A.at st) (v := xh lo (hi + 1)) h.hx) (by simp) (by simp) (by simp)
  · exact keep _ _ h.hy (by simp) (fun i hi => by simp [Loc.verOf] at hi)
  · exact keep _ _ (h.ye j hj) (by simp) (fun i hi => by simp [Loc.verOf] at hi; omega)
  · exact keep _ _ (h.yn j hj) (by simp) (fun i hi => by simp [Loc.verOf] at hi; omega)
  · exact keep _ _ (h.xn j h0 (by omega)) (by simp) (fun i hi => by simp [Loc.verOf] at hi; omega)
end Go.Proofs.YtlaffmdflleeeaaDoor
