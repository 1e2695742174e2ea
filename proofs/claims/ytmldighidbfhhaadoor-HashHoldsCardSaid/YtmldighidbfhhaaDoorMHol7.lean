/- A step of an operation under way: what is kept. Nothing is claimed of a program here.
A step of an operation under way: what is kept, and how far a worker is from its end. Nothing is claimed of a program here.
Turns of four workers: what is kept, and that all come to their ends. Nothing is claimed of a program here.
Operations of four workers in memory. Plain lemmas: nothing is claimed of a program here.
Contracts of the library at this program, as the shelf lays them.
A row of texts that is sorted by the library. -/
import Derived.Test.YtmldighidbfhhaaDoorMHol6
import Derived.Shelf.Small.Bits
import Derived.Shelf.Strconv.Itoa0
import Derived.Ground.SlgmProg
import Derived.Shelf.SortM.Plain
import Derived.Shelf.SortM.SortNone
import Derived.Test.YtmldighidbfhhaaDoorProg
import Derived.Test.YtmldighidbfhhaaDoorMHol2
import Derived.Sort.OwnSorted
namespace Go.Proofs.YtmldighidbfhhaaDoor
open Go Go.RowKit
set_option linter.unusedVariables false

variable {B : Nat} {a : Nat → HAsk} {N : Nat} {t : Int} {g : Tg} {T' : AHt} {C C' : Nat → List Nat}

/-- What was said stands, where chains only grow at their heads. -/
theorem Said.rest {T : AHt} {q : AHop} {puts : Bool} {ref own : Int} {D : List Nat} (h : Said T C q puts ref D) (ht : Tab T C) (hB : 0 < T.nB) (hr : Rest T T' own) (hC : ∀ j, C j <:+ C' j) (hD : D <:+ C (T.bk q.key)) : Said T' C' q puts ref D := by
  have hkb := (bk_eq T q.key hB).2
  have hm : ∀ v ∈ C (T.bk q.key), 1 ≤ v ∧ v ≤ T.nE := fun v hv => ⟨((ht.link _ hkb).mem v hv).1, ((ht.link _ hkb).mem v hv).2.1⟩
  have hk : ∀ v ∈ C (T.bk q.key), ky T' v = ky T v ∧ (T'.E (v - 1)).ref = (T.E (v - 1)).ref := fun v hv => hr.kr v (hm v hv).1 (hm v hv).2
  obtain ⟨h1, h2⟩ := h
  refine ⟨h1, ?_⟩
  rcases h2 with h2 | ⟨b1, b2, ⟨c1, v, c2, c3, c4⟩ | ⟨c1, c2, c3, c4⟩ | ⟨c1, c2, c3, ⟨v, c4, c5, c6⟩, c7⟩⟩
  · exact .inl h2
  · refine .inr ⟨b1, b2, .inl ⟨c1, v, ?_, ?_, ?_⟩⟩
    · rw [hr.bk]; exact (hC _).subset c2
    · rw [(hk v c2).1]; exact c3
    · rw [(hk v c2).2]; exact c4
  · exact .inr ⟨b1, b2, .inr (.inl ⟨c1, c2, c3, fun u hu => by rw [(hk u (hD.subset hu)).1]; exact c4 u hu⟩)⟩
  · refine .inr ⟨b1, b2, .inr (.inr ⟨c1, c2, c3, ⟨v, ?_, ?_, ?_⟩, fun u hu => by rw [(hk u (hD.subset hu)).1]; exact c7 u hu⟩)⟩
    · rw [hr.bk]; exact (hC _).subset c4
    · rw [(hk v c4).1]; exact c5
    · rw [(hk v c4).2]; exact c6

/-- What is added to a table's entries. -/
theorem look_nE (T : AHt) (q : AHop) : ((lookS T q).1.nE = T.nE) ∨ ((lookS T q).1.nE = T.nE + 1 ∧ q.own = 0 ∧ (lookS T q).2.2 = false ∧ (lookS T q).2.1.own ≠ 0) := by
  unfold lookS
  split
  · split
    · split
      · rename_i h
        exact .inr ⟨rfl, h, rfl, by show (T.nE : Int) + 1 ≠ 0; omega⟩
      · exact .inl rfl
    · exact .inl rfl
  · split
    · left
      dsimp only
      split <;> rfl
    · exact .inl rfl
theorem hstep_nE (T : AHt) (q : AHop) : ((hstep T q).1.nE = T.nE) ∨ ((hstep T q).1.nE = T.nE + 1 ∧ q.own = 0 ∧ (hstep T q).2.2 = false ∧ (hstep T q).2.1.own ≠ 0) := by
  unfold hstep
  split
  · exact .inl rfl
  split
  · exact .inl rfl
  split
  · exact look_nE _ _
  split
  · exact look_nE _ _
  split
  · exact .inl rfl
  split
  · exact .inl rfl
  · exact .inl rfl

/-- What is owned, or not, where an operation goes on. -/
def zow (z : Option Nat) (q : AHop) : Nat := match z with
  | none => 0
  | some _ => ow q.own
def zno (z : Option Nat) (q : AHop) : Nat := match z with
  | none => 0
  | some _ => if q.own = 0 then 1 else 0

/-- Worker w's operation k comes to something. -/
def Tg.to (g : Tg) (T' : AHt) (C' : Nat → List Nat) (w k : Nat) (q' : AHop) (S' s' : List Nat) (e : Int) (z : Option Nat) (wn' : Nat → Nat) : Tg :=
  { g with T := T', C := C', q := updA g.q k q', S := updA g.S k S', s := updA g.s k s', en := updA g.en k e, now := updA g.now w z, wn := wn' }

theorem TgI.len (h : TgI B a N t g) (j : Nat) (hj : j < B) : (g.C j).length ≤ sumL (fun j => (g.C j).length) B := by
  have : ∀ (f : Nat → Nat) n, j < n → f j ≤ sumL f n := by
    intro f n
    induction n with
    | zero => intro h; omega
    | succ n ih =>
      intro h
      show _ ≤ sumL f n + f n
      by_cases e : j = n
      · subst e; omega
      · have := ih (by omega); omega
  exact this (fun j => (g.C j).length) B hj
theorem TgI.nN (h : TgI B a N t g) : g.n ≤ N := by have := h.asks; omega

variable {w k : Nat} {q' : AHop} {S' s' : List Nat} {e : Int} {z : Option Nat} {wn' : Nat → Nat}

theorem TgI.to (h : TgI B a N t g) (hB : 0 < B) (hw : w < 4) (hnow : g.now w = some k) (ht' : Tab T' C') (hr : Rest g.T T' (g.q k).own) (hC : ∀ j, g.C j <:+ C' j) (hC' : ∀ j, j < B → ∀ v ∈ C' j, v ∈ g.C j ∨ (v : Int) = (g.q k).own)
    (hkey : q'.key = (g.q k).key) (hputs : q'.puts = (g.q k).puts)
    (hused : T'.used + sumL (fun j => (g.C j).length) B + ow (g.q k).own = g.T.used + sumL (fun j => (C' j).length) B + zow z q')
    (hput : sumL (fun j => (C' j).length) B + zow z q' + g.T.nE ≤ sumL (fun j => (g.C j).length) B + ow (g.q k).own + T'.nE)
    (hnE : T'.nE + zno z q' ≤ g.T.nE + (if (g.q k).own = 0 then 1 else 0))
    (hwn : ∀ j, j < B → ∀ v ∈ g.C j, wn' v = g.wn v)
    (hnew : ∀ j, j < B → ∀ v ∈ C' j, v ∉ g.C j → wn' v = k ∧ e = t ∧ q'.had = false ∧ (g.q k).puts = true ∧ ky T' v = (g.q k).key ∧ (T'.E (v - 1)).ref = (a (g.x k)).ref)
    (hcase : (e = -1 ∧ z = some k ∧ q'.ref = (g.q k).ref ∧ OpI T' C' q' S' s' (g.D k) ∧ (q'.own = (g.q k).own ∨ q'.own = (g.T.nE : Int) + 1)) ∨
      (e = t ∧ z = none ∧ Said T' C' q' (g.q k).puts (g.q k).ref (g.D k) ∧ (keyB (g.q k).key = true → (g.q k).puts = true → q'.had = false → ∃ v ∈ C' (T'.bk (g.q k).key), wn' v = k))) :
    TgI B a N (t + 1) (g.to T' C' w k q' S' s' e z wn') := by
  obtain ⟨hkn, hkw, hke⟩ := h.now w hw k hnow
  obtain ⟨hk1, hk2, hk3, hk4⟩ := h.go k hkn hke
  have hnB : 0 < g.T.nB := by rw [h.nB]; exact hB
  have ho : ∀ l, l ≠ k → (g.to T' C' w k q' S' s' e z wn').q l = g.q l ∧ (g.to T' C' w k q' S' s' e z wn').S l = g.S l ∧ (g.to T' C' w k q' S' s' e z wn').s l = g.s l ∧ (g.to T' C' w k q' S' s' e z wn').en l = g.en l := fun l hl =>
    ⟨updA_ne _ _ hl, updA_ne _ _ hl, updA_ne _ _ hl, updA_ne _ _ hl⟩
  have nq : (g.to T' C' w k q' S' s' e z wn').q k = q' := updA_at _ _ _
  have nS : (g.to T' C' w k q' S' s' e z wn').S k = S' := updA_at _ _ _
  have ns : (g.to T' C' w k q' S' s' e z wn').s k = s' := updA_at _ _ _
  have nen : (g.to T' C' w k q' S' s' e z wn').en k = e := updA_at _ _ _
  have nnow : (g.to T' C' w k q' S' s' e z wn').now w = z := updA_at _ _ _
  have onow : ∀ v, v ≠ w → (g.to T' C' w k q' S' s' e z wn').now v = g.now v := fun v hv => updA_ne _ _ hv
  have akey : ∀ l, ((g.to T' C' w k q' S' s' e z wn').q l).key = (g.q l).key ∧ ((g.to T' C' w k q' S' s' e z wn').q l).puts = (g.q l).puts := fun l => by
    by_cases e9 : l = k
    · rw [e9, nq]; exact ⟨hkey, hputs⟩
    · rw [(ho l e9).1]; exact ⟨rfl, rfl⟩
  have hon := own_not h.tab hk4.own
  have lk : ∀ v, v < 4 → v ≠ w → ∀ l, g.now v = some l → l ≠ k := fun v hv hvw l hl e9 => by
    obtain ⟨_, b2, _⟩ := h.now v hv l hl
    rw [e9, hkw] at b2
    exact hvw b2.symm
  have hown : ∀ v, v < 4 → v ≠ w → (g.to T' C' w k q' S' s' e z wn').ownW v = g.ownW v := fun v hv hvw => by
    unfold Tg.ownW
    rw [onow v hvw]
    cases hn : g.now v with
    | none => rfl
    | some l => show ow ((g.to T' C' w k q' S' s' e z wn').q l).own = _; rw [(ho l (lk v hv hvw l hn)).1]
  have hno : ∀ v, v < 4 → v ≠ w → (g.to T' C' w k q' S' s' e z wn').noW v = g.noW v := fun v hv hvw => by
    unfold Tg.noW
    rw [onow v hvw]
    cases hn : g.now v with
    | none => rfl
    | some l => show (if ((g.to T' C' w k q' S' s' e z wn').q l).own = 0 then 1 else 0) = _; rw [(ho l (lk v hv hvw l hn)).1]
  have how : g.ownW w = ow (g.q k).own := by unfold Tg.ownW; rw [hnow]
  have hnw : g.noW w = if (g.q k).own = 0 then 1 else 0 := by unfold Tg.noW; rw [hnow]
  have hzk : z = none ∨ z = some k := hcase.elim (fun h => .inr h.2.1) (fun h => .inl h.2.1)
  have how' : (g.to T' C' w k q' S' s' e z wn').ownW w = zow z q' := by
    unfold Tg.ownW
    rw [nnow]
    rcases hzk with rfl | rfl
    · rfl
    · show ow ((g.to T' C' w k q' S' s' e (some k) wn').q k).own = ow q'.own; rw [nq]
  have hnw' : (g.to T' C' w k q' S' s' e z wn').noW w = zno z q' := by
    unfold Tg.noW
    rw [nnow]
    rcases hzk with rfl | rfl
    · rfl
    · show (if ((g.to T' C' w k q' S' s' e (some k) wn').q k).own = 0 then 1 else 0) = (if q'.own = 0 then 1 else 0); rw [nq]
  have s1 := sum4_one (f := g.ownW) (h := (g.to T' C' w k q' S' s' e z wn').ownW) hw hown
  have s2 := sum4_one (f := g.noW) (h := (g.to T' C' w k q' S' s' e z wn').noW) hw hno
  rw [how, how'] at s1
  rw [hnw, hnw'] at s2
  have i1 := h.used
  have i2 := h.put
  have i3 := h.nE
  have hmem : ∀ j, j < B → ∀ v ∈ g.C j, 1 ≤ v ∧ v ≤ g.T.nE := fun j hj v hv => ⟨((h.tab.link j (by rw [h.nB]; exact hj)).mem v hv).1, ((h.tab.link j (by rw [h.nB]; exact hj)).mem v hv).2.1⟩
  have hkr : ∀ j, j < B → ∀ v ∈ g.C j, ky T' v = ky g.T v ∧ (T'.E (v - 1)).ref = (g.T.E (v - 1)).ref := fun j hj v hv => hr.kr v (hmem j hj v hv).1 (hmem j hj v hv).2
  have hbkB : ∀ key, g.T.bk key < B := fun key => by have := (bk_eq g.T key hnB).2; rw [h.nB] at this; exact this
  have het : e = -1 ∨ e = t := hcase.elim (fun h => .inl h.1) (fun h => .inr h.1)
  have htime := h.time
  refine ⟨ht', hr.nB.trans h.nB, hr.size.trans h.size, by omega, ?_, ?_, ?_, h.asks, fun l hl => ?_, fun l hl he => ?_, fun l hl he => ?_, fun v hv l hv2 => ?_, fun l m hl hm hlm he1 he2 => ?_, h.inj, h.pos, h.past, fun j hj v hv => ?_, fun l hl he h1 h2 h3 => ?_, fun l hl he h1 => ?_, fun l m hl hm hh he e9 => ?_⟩
  · show T'.used = B + sumL (fun j => (C' j).length) B + _
    omega
  · show T'.nE + _ ≤ g.n
    omega
  · show sumL (fun j => (C' j).length) B + _ ≤ T'.nE
    omega
  · obtain ⟨b1, b2, b3, b4, b5, b6, b7⟩ := h.key l hl
    rw [(akey l).1, (akey l).2]
    show g.x l < N ∧ (g.q l).key = (a (g.x l)).key ∧ (g.q l).puts = _ ∧ 0 ≤ g.bg l ∧ g.bg l < t + 1 ∧ _ ∧ (0 ≤ _ → g.bg l < _)
    by_cases e9 : l = k
    · subst e9
      rw [nen]
      exact ⟨b1, b2, b3, b4, by omega, by omega, fun h9 => by omega⟩
    · rw [(ho l e9).2.2.2]
      exact ⟨b1, b2, b3, b4, by omega, by omega, b7⟩
  · by_cases e9 : l = k
    · subst e9
      rw [nen] at he ⊢
      rcases hcase with ⟨c1, c2, c3, c4, _⟩ | ⟨c1, _⟩
      · refine ⟨c1, ?_, ?_, ?_⟩
        · show (g.to T' C' w l q' S' s' e z wn').now (wkN (a (g.x l)).wk) = some l
          rw [hkw, nnow]; exact c2
        · rw [nq, c3]; exact hk3
        · rw [nq, nS, ns]; exact c4
      · omega
    · obtain ⟨e1, e2, e3, e4⟩ := ho l e9
      rw [e4] at he ⊢
      obtain ⟨b1, b2, b3, b4⟩ := h.go l hl he
      refine ⟨b1, ?_, ?_, ?_⟩
      · show (g.to T' C' w k q' S' s' e z wn').now (wkN (a (g.x l)).wk) = some l
        rw [onow _ fun e8 => by rw [e8, hnow] at b2; exact e9 (by simpa using b2.symm)]
        exact b2
      · rw [e1]; exact b3
      · rw [e1, e2, e3]
        exact b4.rest h.tab hnB hr (h.apart l k hl hkn e9 he hke) hon hC fun j hj => hC' j (by rw [← h.nB]; exact hj)
  · by_cases e9 : l = k
    · subst e9
      rw [nen] at he
      rcases hcase with ⟨c1, _⟩ | ⟨c1, c2, c3, c4⟩
      · omega
      · rw [nq, hputs, hkey]
        refine ⟨?_, ?_⟩
        · show Said T' C' q' (g.q l).puts (a (g.x l)).ref0 (g.D l)
          rw [← hk3]; exact c3
        · show g.D l <:+ C' (T'.bk (g.q l).key)
          rw [hr.bk]; exact hk4.made.trans (hC _)
    · obtain ⟨e1, e2, e3, e4⟩ := ho l e9
      rw [e4] at he
      obtain ⟨b1, b2⟩ := h.done l hl he
      rw [e1]
      refine ⟨b1.rest h.tab hnB hr hC b2, ?_⟩
      show g.D l <:+ C' (T'.bk (g.q l).key)
      rw [hr.bk]; exact b2.trans (hC _)
  · by_cases e8 : v = w
    · subst e8
      rw [nnow] at hv2
      rcases hcase with ⟨c1, c2, _⟩ | ⟨_, c2, _⟩
      · rw [c2] at hv2
        obtain rfl : k = l := by simpa using hv2
        rw [nen]
        exact ⟨hkn, hkw, by omega⟩
      · rw [c2] at hv2; cases hv2
    · rw [onow v e8] at hv2
      obtain ⟨b1, b2, b3⟩ := h.now v hv l hv2
      refine ⟨b1, b2, ?_⟩
      rw [(ho l (lk v hv e8 l hv2)).2.2.2]; exact b3
  · by_cases e8 : l = k
    · subst e8
      rw [nen] at he1
      have e7 : m ≠ l := fun e => hlm e.symm
      rw [(ho m e7).2.2.2] at he2
      rw [nq, (ho m e7).1]
      rcases hcase with ⟨_, _, _, _, c5⟩ | ⟨c1, _⟩
      · rcases c5 with c5 | c5
        · rw [c5]; exact h.apart l m hl hm hlm hke he2
        · right
          rcases (h.go m hm he2).2.2.2.own with c6 | ⟨i, c6, c7, _⟩ <;> omega
      · omega
    · rw [(ho l e8).2.2.2] at he1
      rw [(ho l e8).1]
      by_cases e7 : m = k
      · subst e7
        rw [nen] at he2
        rw [nq]
        rcases hcase with ⟨_, _, _, _, c5⟩ | ⟨c1, _⟩
        · rcases c5 with c5 | c5
          · rw [c5]; exact h.apart l m hl hm hlm he1 hke
          · rcases (h.go l hl he1).2.2.2.own with c6 | ⟨i, c6, c7, _⟩
            · exact .inl c6
            · right; omega
        · omega
      · rw [(ho m e7).2.2.2] at he2
        rw [(ho m e7).1]
        exact h.apart l m hl hm hlm he1 he2
  · show wn' v < g.n ∧ (a (g.x (wn' v))).look = false ∧ (a (g.x (wn' v))).key = ky T' v ∧ (a (g.x (wn' v))).ref = (T'.E (v - 1)).ref ∧ 0 ≤ (g.to T' C' w k q' S' s' e z wn').en (wn' v) ∧ ((g.to T' C' w k q' S' s' e z wn').q (wn' v)).had = false
    by_cases hv9 : v ∈ g.C j
    · rw [hwn j hj v hv9]
      obtain ⟨b1, b2, b3, b4, b5, b6⟩ := h.who j hj v hv9
      have e9 : g.wn v ≠ k := fun e => by rw [e] at b5; omega
      rw [(ho _ e9).1, (ho _ e9).2.2.2, (hkr j hj v hv9).1, (hkr j hj v hv9).2]
      exact ⟨b1, b2, b3, b4, b5, b6⟩
    · obtain ⟨b1, b2, b3, b4, b5, b6⟩ := hnew j hj v hv hv9
      rw [b1, nen, nq]
      obtain ⟨d1, d2, d3, _⟩ := h.key k hkn
      rw [b4] at d3
      exact ⟨hkn, by simpa using d3.symm, by rw [b5, d2], b6.symm, by omega, b3⟩
  · by_cases e9 : l = k
    · subst e9
      rw [nen] at he
      rw [(akey l).1] at h1 ⊢
      rw [(akey l).2] at h2
      rw [nq] at h3
      rcases hcase with ⟨c1, _⟩ | ⟨_, _, _, c4⟩
      · omega
      · exact c4 h1 h2 h3
    · obtain ⟨e1, e2, e3, e4⟩ := ho l e9
      rw [e4] at he
      rw [e1] at h1 h2 h3 ⊢
      obtain ⟨v, b1, b2⟩ := h.mine l hl he h1 h2 h3
      refine ⟨v, ?_, ?_⟩
      · show v ∈ C' (T'.bk (g.q l).key)
        rw [hr.bk]; exact (hC _).subset b1
      · exact (hwn _ (hbkB _) v b1).trans b2
  · by_cases e9 : l = k
    · subst e9
      rw [nen] at he
      rw [nq] at h1
      rw [(akey l).1, nen]
      rcases hcase with ⟨c1, _⟩ | ⟨c1, _, c3, _⟩
      · omega
      · obtain ⟨_, d | ⟨_, _, ⟨_, v, d2, d3, _⟩ | ⟨d1, _⟩ | ⟨d1, _⟩⟩⟩ := c3
        · rw [d.2.2.1] at h1; cases h1
        · rw [hkey, hr.bk] at d2
          rw [hkey] at d3
          rcases Decidable.em (v ∈ g.C (g.T.bk (g.q l).key)) with hv9 | hv9
          · obtain ⟨f1, f2, f3, f4, f5, f6⟩ := h.who _ (hbkB _) v hv9
            refine ⟨g.wn v, f1, f2, ?_, ?_⟩
            · show (a (g.x (g.wn v))).key = _
              rw [f3, ← (hkr _ (hbkB _) v hv9).1]; exact d3
            · show g.bg (g.wn v) ≤ e
              have := (h.key _ f1).2.2.2.2.1
              omega
          · have := (hnew _ (hbkB _) v d2 hv9).2.2.1
            rw [h1] at this; cases this
        · rw [d1] at h1; cases h1
        · rw [d1] at h1; cases h1
    · obtain ⟨e1, e2, e3, e4⟩ := ho l e9
      rw [e4] at he
      rw [e1] at h1 ⊢
      rw [e4]
      exact h.met l hl he h1
  · rw [(akey l).1, (akey m).1] at e9
    rw [(akey m).1]
    show ∃ u ∈ g.D m, ky T' u = (g.q m).key
    by_cases e8 : l = k
    · subst e8
      have h1 := hh.1
      rw [nen] at he h1
      have he' : e < g.bg m := he
      have := (h.key m hm).2.2.2.2.1
      omega
    · obtain ⟨e1, e2, e3, e4⟩ := ho l e8
      have hh' : g.here a l := by
        unfold Tg.here at hh ⊢
        rw [e1, e4] at hh
        exact hh
      rw [e4] at he
      obtain ⟨u, b1, b2⟩ := h.seen l m hl hm hh' he e9
      refine ⟨u, b1, ?_⟩
      have hD : g.D m <:+ g.C (g.T.bk (g.q m).key) := by
        rcases Int.lt_or_le (g.en m) 0 with h9 | h9
        · exact (h.go m hm h9).2.2.2.made
        · exact (h.done m hm h9).2
      rw [(hkr _ (hbkB _) u (hD.subset b1)).1]; exact b2
end Go.Proofs.YtmldighidbfhhaaDoor
namespace Go.Proofs.YtmldighidbfhhaaDoor
open Go Go.RowKit
set_option linter.unusedVariables false

variable {B : Nat} {a : Nat → HAsk} {N : Nat} {t : Int} {g : Tg} {w k : Nat}

theorem sumL_put (C : Nat → List Nat) (j v B : Nat) (hj : j < B) : sumL (fun i => (putC C j v i).length) B = sumL (fun i => (C i).length) B + 1 := by
  have lo : ∀ n, n ≤ j → sumL (fun i => (putC C j v i).length) n = sumL (fun i => (C i).length) n := by
    intro n
    induction n with
    | zero => intro _; rfl
    | succ n ih =>
      intro h
      show sumL _ n + (putC C j v n).length = sumL _ n + (C n).length
      rw [ih (by omega)]
      unfold putC
      rw [if_neg (by omega)]
  induction B with
  | zero => omega
  | succ n ih =>
    show sumL _ n + (putC C j v n).length = sumL _ n + (C n).length + 1
    by_cases e : j = n
    · subst e
      rw [lo j (Nat.le_refl _)]
      unfold putC
      rw [if_pos rfl, List.length_cons]; omega
    · rw [ih (by omega)]
      unfold putC
      rw [if_neg (fun h => e h.symm)]; omega

/-- How far a worker is from its end. -/
def lam (B : Nat) (a : Nat → HAsk) (N : Nat) (g : Tg) (w : Nat) : Nat := unb a N w (g.pos w) * (N + 5) + (N - sumL (fun j => (g.C j).length) B) * (N + 4) + g.costW N w

theorem cost_pos (n : Nat) (T : AHt) (C : Nat → List Nat) (q : AHop) (S s : List Nat) : 1 ≤ cost n T C q S s := by
  unfold cost left
  split
  · omega
  split
  · omega
  split
  · omega
  · omega
theorem cost_any (n : Nat) (T T' : AHt) (C C' : Nat → List Nat) (q : AHop) (S s : List Nat) : cost n T' C' q S s ≤ cost n T C q S s + (n + 4) := by
  have : stale T' C' q S * (n + 4) ≤ n + 4 := by
    unfold stale
    split
    · omega
    split <;> omega
  unfold cost
  omega
theorem cost_bk (n : Nat) {T T' : AHt} (C : Nat → List Nat) (q : AHop) (S s : List Nat) (h : T'.bk q.key = T.bk q.key) : cost n T' C q S s = cost n T C q S s := by
  unfold cost stale
  rw [h]

theorem TgI.sumN (h : TgI B a N t g) : sumL (fun j => (g.C j).length) B ≤ N := by
  have := h.put
  have := h.nE
  have := h.nN
  omega

theorem TgI.begun_lam (h : TgI B a N t g) (hw : w < 4) (hnow : g.now w = none) (hp : g.pos w < N) (hk : wkN (a (g.pos w)).wk = w) :
    (∀ v, v < 4 → lam B a N (g.begin a t w) v ≤ lam B a N g v) ∧ lam B a N (g.begin a t w) w < lam B a N g w := by
  have hlt : lam B a N (g.begin a t w) w < lam B a N g w := by
    have e1 : (g.begin a t w).costW N w = N + 3 := by
      unfold Tg.costW
      rw [show (g.begin a t w).now w = some g.n from updA_at _ _ _]
      show cost N g.T g.C ((g.begin a t w).q g.n) _ _ = N + 3
      rw [show (g.begin a t w).q g.n = (a (g.pos w)).op from updA_at _ _ _]
      exact cost_zero rfl
    have e2 : (g.begin a t w).pos w = g.pos w + 1 := updA_at _ _ _
    have e3 := unb_take a N w (g.pos w) hp hk
    have e4 : g.costW N w = 0 := by unfold Tg.costW; rw [hnow]
    have e5 : (g.begin a t w).C = g.C := rfl
    unfold lam
    rw [e1, e2, ← e3, e4, e5, Nat.add_mul]
    omega
  refine ⟨fun v hv => ?_, hlt⟩
  by_cases e : v = w
  · subst e; omega
  · have e1 : (g.begin a t w).costW N v = g.costW N v := by
      unfold Tg.costW
      rw [show (g.begin a t w).now v = g.now v from updA_ne _ _ e]
      cases hn : g.now v with
      | none => rfl
      | some l =>
        have hl : l ≠ g.n := by have := (h.now v hv l hn).1; omega
        show cost N g.T g.C ((g.begin a t w).q l) ((g.begin a t w).S l) ((g.begin a t w).s l) = _
        rw [show (g.begin a t w).q l = g.q l from updA_ne _ _ hl, show (g.begin a t w).S l = g.S l from updA_ne _ _ hl, show (g.begin a t w).s l = g.s l from updA_ne _ _ hl]
    unfold lam
    rw [e1, show (g.begin a t w).pos v = g.pos v from updA_ne _ _ e]
    exact Nat.le_refl _

/-- What a turn of a worker's operation comes to. -/
structure Stepped (B : Nat) (a : Nat → HAsk) (N : Nat) (t : Int) (w k : Nat) (g g' : Tg) : Prop where
  inv : TgI B a N (t + 1) g'
  n : g'.n = g.n
  T : g'.T = (hstep g.T (g.q k)).1
  q : g'.q = updQ g.q k (hstep g.T (g.q k)).2.1
  x : g'.x = g.x
  bg : g'.bg = g.bg
  pos : g'.pos = g.pos
  en : ((hstep g.T (g.q k)).2.2 = false ∧ g'.en = g.en ∧ g'.now = g.now) ∨ ((hstep g.T (g.q k)).2.2 = true ∧ g'.en = updA g.en k t ∧ g'.now = updA g.now w none)
  lam : (∀ v, v < 4 → lam B a N g' v ≤ lam B a N g v) ∧ lam B a N g' w < lam B a N g w

theorem updA_id {α : Type} (f : Nat → α) (i : Nat) : updA f i (f i) = f := funext fun j => by
  unfold updA
  split
  · rename_i h; rw [h]
  · rfl

theorem TgI.stepped (h : TgI B a N t g) (hB : 0 < B) (hw : w < 4) (hnow : g.now w = some k) : ∃ g', Stepped B a N t w k g g' := by
  obtain ⟨hkn, hkw, hke⟩ := h.now w hw k hnow
  obtain ⟨hk1, hk2, hk3, hk4⟩ := h.go k hkn hke
  have hnB : 0 < g.T.nB := by rw [h.nB]; exact hB
  have hlen : ∀ j, j < g.T.nB → (g.C j).length ≤ N := fun j hj => by
    have h1 := h.len j (by rw [← h.nB]; exact hj)
    have h2 := h.sumN
    omega
  have hbkB : ∀ key, g.T.bk key < B := fun key => by have := (bk_eq g.T key hnB).2; rw [h.nB] at this; exact this
  have hnE := hstep_nE g.T (g.q k)
  have lk : ∀ v, v < 4 → v ≠ w → ∀ l, g.now v = some l → l ≠ k := fun v hv hvw l hl e9 => by
    obtain ⟨_, b2, _⟩ := h.now v hv l hl
    rw [e9, hkw] at b2
    exact hvw b2.symm
  have hcw : g.costW N w = cost N g.T g.C (g.q k) (g.S k) (g.s k) := by unfold Tg.costW; rw [hnow]
  have hcp := cost_pos N g.T g.C (g.q k) (g.S k) (g.s k)
  have other : ∀ T' C' q' S' s' e z wn', ∀ v, v < 4 → v ≠ w → ∃ l, (g.costW N v = 0 ∧ (g.to T' C' w k q' S' s' e z wn').costW N v = 0) ∨ (g.costW N v = cost N g.T g.C (g.q l) (g.S l) (g.s l) ∧ (g.to T' C' w k q' S' s' e z wn').costW N v = cost N T' C' (g.q l) (g.S l) (g.s l)) := fun T' C' q' S' s' e z wn' v hv hvw => by
    cases hn : g.now v with
    | none =>
      refine ⟨0, .inl ⟨?_, ?_⟩⟩
      · unfold Tg.costW; rw [hn]
      · unfold Tg.costW; rw [show (g.to T' C' w k q' S' s' e z wn').now v = g.now v from updA_ne _ _ hvw, hn]
    | some l =>
      have hl := lk v hv hvw l hn
      refine ⟨l, .inr ⟨?_, ?_⟩⟩
      · unfold Tg.costW; rw [hn]
      · unfold Tg.costW
        rw [show (g.to T' C' w k q' S' s' e z wn').now v = g.now v from updA_ne _ _ hvw, hn]
        show cost N T' C' ((g.to T' C' w k q' S' s' e z wn').q l) ((g.to T' C' w k q' S' s' e z wn').S l) ((g.to T' C' w k q' S' s' e z wn').s l) = _
        rw [show (g.to T' C' w k q' S' s' e z wn').q l = g.q l from updA_ne _ _ hl, show (g.to T' C' w k q' S' s' e z wn').S l = g.S l from updA_ne _ _ hl, show (g.to T' C' w k q' S' s' e z wn').s l = g.s l from updA_ne _ _ hl]
  have mono : ∀ g' : Tg, (∀ v, v < 4 → v ≠ w → lam B a N g' v ≤ lam B a N g v) → lam B a N g' w < lam B a N g w → ((∀ v, v < 4 → lam B a N g' v ≤ lam B a N g v) ∧ lam B a N g' w < lam B a N g w) := fun g' h1 h2 => ⟨fun v hv => by
    by_cases e : v = w
    · subst e; omega
    · exact h1 v hv e, h2⟩
  rcases step_law N h.tab hnB hlen hk4 with ⟨a1, a2, a3, a4, a5⟩ | ⟨c1, c2, c3, c4, c5, c6, c7, c8, i, c9, c10, c11⟩
  · have ocost : ∀ q' S' s' e z wn', ∀ v, v < 4 → v ≠ w → lam B a N (g.to (hstep g.T (g.q k)).1 g.C w k q' S' s' e z wn') v ≤ lam B a N g v := fun q' S' s' e z wn' v hv hvw => by
      have e1 : (g.to (hstep g.T (g.q k)).1 g.C w k q' S' s' e z wn').costW N v = g.costW N v := by
        obtain ⟨l, ⟨d1, d2⟩ | ⟨d1, d2⟩⟩ := other (hstep g.T (g.q k)).1 g.C q' S' s' e z wn' v hv hvw
        · rw [d1, d2]
        · rw [d1, d2]; exact cost_bk N _ _ _ _ (a2.bk _)
      unfold lam
      rw [e1]
      exact Nat.le_refl _
    rcases a5 with ⟨b1, b2, b3, b4, S', s', b5, b6⟩ | ⟨b1, b2, b3, b4⟩
    · have hi := h.to (C' := g.C) (e := -1) (z := some k) (wn' := g.wn) hB hw hnow a1 a2 (fun j => List.suffix_refl _) (fun j hj v hv => .inl hv) a3 a4
        (by show _ + _ + _ = _ + _ + ow _; omega)
        (by
          show _ + ow _ + _ ≤ _
          have h9 := a2.nE.1
          rcases b4 with b4 | b4
          · rw [b4]; omega
          · have h8 : ow (hstep g.T (g.q k)).2.1.own ≤ 1 := by unfold ow; split <;> omega
            rcases b5.own with h7 | ⟨i, h7, h6, _⟩ <;> omega)
        (by
          show _ + (if (hstep g.T (g.q k)).2.1.own = 0 then 1 else 0) ≤ _
          rcases hnE with h9 | ⟨h9, h8, _, h7⟩
          · rcases b4 with b4 | b4
            · rw [b4]; omega
            · rw [if_neg (by omega)]; omega
          · rw [if_neg h7, if_pos h8]; omega)
        (fun _ _ _ _ => rfl) (fun j hj v h1 h2 => absurd h1 h2) (.inl ⟨rfl, rfl, b2, b5, b4⟩)
      refine ⟨_, hi, rfl, rfl, rfl, rfl, rfl, rfl, .inl ⟨b1, ?_, ?_⟩, mono _ (ocost _ _ _ _ _ _) ?_⟩
      · show updA g.en k (-1) = g.en
        rw [← hk1]; exact updA_id _ _
      · show updA g.now w (some k) = g.now
        rw [← hnow]; exact updA_id _ _
      · have e1 : (g.to (hstep g.T (g.q k)).1 g.C w k (hstep g.T (g.q k)).2.1 S' s' (-1) (some k) g.wn).costW N w = cost N (hstep g.T (g.q k)).1 g.C (hstep g.T (g.q k)).2.1 S' s' := by
          unfold Tg.costW
          rw [show (g.to (hstep g.T (g.q k)).1 g.C w k (hstep g.T (g.q k)).2.1 S' s' (-1) (some k) g.wn).now w = some k from updA_at _ _ _]
          show cost N (hstep g.T (g.q k)).1 g.C (updA g.q k _ k) (updA g.S k _ k) (updA g.s k _ k) = _
          rw [updA_at, updA_at, updA_at]
        unfold lam
        rw [e1, hcw]
        exact Nat.add_lt_add_left b6 _
    · have hi := h.to (C' := g.C) (S' := []) (s' := []) (e := t) (z := none) (wn' := g.wn) hB hw hnow a1 a2 (fun j => List.suffix_refl _) (fun j hj v hv => .inl hv) a3 a4
        (by show _ + _ + _ = _ + _ + 0; omega)
        (by show _ + 0 + _ ≤ _; have := a2.nE.1; omega)
        (by
          show _ + 0 ≤ _
          rcases hnE with h9 | ⟨h9, h8, _, h7⟩
          · omega
          · rw [if_pos h8]; omega)
        (fun _ _ _ _ => rfl) (fun j hj v h1 h2 => absurd h1 h2) (.inr ⟨rfl, rfl, b4, fun h1 h2 h3 => by
          rcases b3 with b3 | b3 | b3
          · rw [b3] at h3; cases h3
          · rw [b3] at h2; cases h2
          · rw [b3] at h1; cases h1⟩)
      refine ⟨_, hi, rfl, rfl, rfl, rfl, rfl, rfl, .inr ⟨b1, rfl, rfl⟩, mono _ (ocost _ _ _ _ _ _) ?_⟩
      have e1 : (g.to (hstep g.T (g.q k)).1 g.C w k (hstep g.T (g.q k)).2.1 [] [] t none g.wn).costW N w = 0 := by
        unfold Tg.costW
        rw [show (g.to (hstep g.T (g.q k)).1 g.C w k (hstep g.T (g.q k)).2.1 [] [] t none g.wn).now w = none from updA_at _ _ _]
      unfold lam
      rw [e1, hcw]
      exact Nat.add_lt_add_left hcp _
  · have hon := own_not h.tab hk4.own
    obtain ⟨hw0, hw1, hw2, hw3, hw4⟩ : i < g.T.nE ∧ (g.T.E i).gone = false ∧ (g.T.E i).key = (g.q k).key ∧ (g.T.E i).ref = (g.q k).ref ∧ ow (g.q k).own = 1 := by
      rcases hk4.own with h0 | ⟨m, m1, m2, m3, m4, m5, _⟩
      · omega
      · obtain rfl : m = i := by omega
        exact ⟨m2, m3, m4, m5, by unfold ow; rw [if_neg (by omega)]⟩
    have hsum := sumL_put g.C (g.T.bk (g.q k).key) (i + 1) B (hbkB _)
    have isnew : ∀ j v, v ∈ putC g.C (g.T.bk (g.q k).key) (i + 1) j → v ∈ g.C j ∨ v = i + 1 := fun j v hv => by
      unfold putC at hv
      split at hv
      · rcases List.mem_cons.1 hv with h | h
        · exact .inr h
        · exact .inl h
      · exact .inl hv
    have hi := h.to (C' := putC g.C (g.T.bk (g.q k).key) (i + 1)) (S' := []) (s' := []) (e := t) (z := none) (wn' := updA g.wn (i + 1) k) hB hw hnow c10 c6
      (fun j => by unfold putC; split; exact List.suffix_cons _ _; exact List.suffix_refl _)
      (fun j hj v hv => (isnew j v hv).imp_right fun e => by omega) c4 c5
      (by show _ + _ + _ = _ + _ + 0; omega)
      (by show _ + 0 + _ ≤ _; have := c6.nE.1; omega)
      (by
        show _ + 0 ≤ _
        rcases hnE with h9 | ⟨h9, h8, _, h7⟩
        · omega
        · rw [if_pos h8]; omega)
      (fun j hj v hv => updA_ne _ _ fun e => hon j (by rw [h.nB]; exact hj) v hv (by omega))
      (fun j hj v h1 h2 => by
        rcases isnew j v h1 with h3 | rfl
        · exact absurd h3 h2
        · obtain ⟨d1, d2⟩ := c6.kr (i + 1) (by omega) (by omega)
          rw [Nat.add_sub_cancel] at d1 d2
          refine ⟨updA_at _ _ _, rfl, c2, c3, ?_, ?_⟩
          · unfold ky; rw [Nat.add_sub_cancel, d1]; exact hw2
          · rw [Nat.add_sub_cancel, d2, hw3, hk3]
            obtain ⟨_, _, f3, _⟩ := h.key k hkn
            rw [c3] at f3
            unfold HAsk.ref0
            rw [if_neg (by simpa using f3)])
      (.inr ⟨rfl, rfl, c11, fun _ _ _ => ⟨i + 1, by rw [c6.bk]; unfold putC; rw [if_pos rfl]; simp, updA_at _ _ _⟩⟩)
    have hN := hi.sumN
    have hN' : sumL (fun j => (putC g.C (g.T.bk (g.q k).key) (i + 1) j).length) B ≤ N := hN
    have eN : N - sumL (fun j => (g.C j).length) B = (N - sumL (fun j => (putC g.C (g.T.bk (g.q k).key) (i + 1) j).length) B) + 1 := by omega
    refine ⟨_, hi, rfl, rfl, rfl, rfl, rfl, rfl, .inr ⟨c1, rfl, rfl⟩, mono _ (fun v hv hvw => ?_) ?_⟩
    · have e1 : (g.to (hstep g.T (g.q k)).1 (putC g.C (g.T.bk (g.q k).key) (i + 1)) w k (hstep g.T (g.q k)).2.1 [] [] t none (updA g.wn (i + 1) k)).costW N v ≤ g.costW N v + (N + 4) := by
        obtain ⟨l, ⟨d1, d2⟩ | ⟨d1, d2⟩⟩ := other (hstep g.T (g.q k)).1 (putC g.C (g.T.bk (g.q k).key) (i + 1)) (hstep g.T (g.q k)).2.1 [] [] t none (updA g.wn (i + 1) k) v hv hvw
        · rw [d1, d2]; omega
        · rw [d1, d2]; exact cost_any _ _ _ _ _ _ _ _
      show unb a N v (g.pos v) * (N + 5) + (N - sumL (fun j => (putC g.C (g.T.bk (g.q k).key) (i + 1) j).length) B) * (N + 4) + _ ≤ unb a N v (g.pos v) * (N + 5) + (N - sumL (fun j => (g.C j).length) B) * (N + 4) + _
      rw [eN, Nat.add_mul]
      omega
    · have e1 : (g.to (hstep g.T (g.q k)).1 (putC g.C (g.T.bk (g.q k).key) (i + 1)) w k (hstep g.T (g.q k)).2.1 [] [] t none (updA g.wn (i + 1) k)).costW N w = 0 := by
        unfold Tg.costW
        rw [show (g.to (hstep g.T (g.q k)).1 (putC g.C (g.T.bk (g.q k).key) (i + 1)) w k (hstep g.T (g.q k)).2.1 [] [] t none (updA g.wn (i + 1) k)).now w = none from updA_at _ _ _]
      show unb a N w (g.pos w) * (N + 5) + (N - sumL (fun j => (putC g.C (g.T.bk (g.q k).key) (i + 1) j).length) B) * (N + 4) + _ < unb a N w (g.pos w) * (N + 5) + (N - sumL (fun j => (g.C j).length) B) * (N + 4) + _
      rw [eN, Nat.add_mul, e1]
      omega
end Go.Proofs.YtmldighidbfhhaaDoor
namespace Go.Proofs.YtmldighidbfhhaaDoor
open Go Go.RowKit
set_option linter.unusedVariables false

variable {B : Nat} {a : Nat → HAsk} {N : Nat} {t : Int} {g g' : Tg} {w k : Nat}

/-- A worker has nothing to do any more. -/
def Idle (a : Nat → HAsk) (N : Nat) (g : Tg) (w : Nat) : Prop := g.now w = none ∧ unb a N w (g.pos w) = 0

theorem TgI.wait (h : TgI B a N t g) : TgI B a N (t + 1) g :=
  ⟨h.tab, h.nB, h.size, by have := h.time; omega, h.used, h.nE, h.put, h.asks, fun k hk => by
    obtain ⟨b1, b2, b3, b4, b5, b6, b7⟩ := h.key k hk
    exact ⟨b1, b2, b3, b4, by omega, by omega, b7⟩, h.go, h.done, h.now, h.apart, h.inj, h.pos, h.past, h.who, h.mine, h.met, h.seen⟩

/-- A worker's place goes on over asks that are not its own. -/
def Tg.skip (g : Tg) (w p : Nat) : Tg := { g with pos := updA g.pos w p }
theorem skip_skip (g : Tg) (w p r : Nat) : (g.skip w p).skip w r = g.skip w r := by
  unfold Tg.skip
  have : updA (updA g.pos w p) w r = updA g.pos w r := funext fun j => by unfold updA; split <;> rfl
  show { g with pos := updA (updA g.pos w p) w r } = _
  rw [this]
theorem skip_same (g : Tg) (w : Nat) : g.skip w (g.pos w) = g := by
  unfold Tg.skip
  rw [updA_id]

theorem TgI.skip (h : TgI B a N t g) {p : Nat} (hw : w < 4) (h1 : g.pos w ≤ p) (h2 : p ≤ N) (h3 : unb a N w p = unb a N w (g.pos w)) : TgI B a N t (g.skip w p) := by
  have e : (fun v => unb a N v ((g.skip w p).pos v)) = fun v => unb a N v (g.pos v) := funext fun v => by
    by_cases e : v = w
    · subst e
      rw [show (g.skip v p).pos v = p from updA_at _ _ _]; exact h3
    · rw [show (g.skip w p).pos v = g.pos v from updA_ne _ _ e]
  refine ⟨h.tab, h.nB, h.size, h.time, h.used, h.nE, h.put, ?_, h.key, h.go, h.done, h.now, h.apart, h.inj, fun v hv => ?_, fun k hk => ?_, h.who, h.mine, h.met, h.seen⟩
  · rw [e]; exact h.asks
  · by_cases e : v = w
    · subst e
      rw [show (g.skip v p).pos v = p from updA_at _ _ _]; exact h2
    · rw [show (g.skip w p).pos v = g.pos v from updA_ne _ _ e]; exact h.pos v hv
  · have := h.past k hk
    show g.x k < (g.skip w p).pos (wkN (a (g.x k)).wk)
    by_cases e : wkN (a (g.x k)).wk = w
    · rw [e] at this ⊢
      rw [show (g.skip w p).pos w = p from updA_at _ _ _]; omega
    · rw [show (g.skip w p).pos _ = g.pos _ from updA_ne _ _ e]; exact this

theorem lam_skip {p : Nat} (h3 : unb a N w p = unb a N w (g.pos w)) (v : Nat) : lam B a N (g.skip w p) v = lam B a N g v := by
  unfold lam
  by_cases e : v = w
  · subst e
    rw [show (g.skip v p).pos v = p from updA_at _ _ _, h3]; rfl
  · rw [show (g.skip w p).pos v = g.pos v from updA_ne _ _ e]; rfl

/-- A turn of worker w. -/
structure Turned (B : Nat) (a : Nat → HAsk) (N : Nat) (w : Nat) (g g' : Tg) : Prop where
  same : ∀ v, v < 4 → v ≠ w → g'.now v = g.now v ∧ g'.pos v = g.pos v
  le : ∀ v, v < 4 → lam B a N g' v ≤ lam B a N g v
  lt : (lam B a N g' w < lam B a N g w ∧ ¬ Idle a N g w) ∨ Idle a N g' w

theorem Turned.ofStep (h : Stepped B a N t w k g g') (hnow : g.now w = some k) : Turned B a N w g g' :=
  ⟨fun v hv hvw => ⟨by
    rcases h.en with ⟨_, _, e⟩ | ⟨_, _, e⟩
    · rw [e]
    · rw [e]; exact updA_ne _ _ hvw, by rw [h.pos]⟩, h.lam.1, .inl ⟨h.lam.2, fun h9 => by rw [h9.1] at hnow; cases hnow⟩⟩
theorem Turned.ofBegin {p : Nat} (h : TgI B a N t g) (hw : w < 4) (hnow : g.now w = none) (h1 : g.pos w ≤ p) (h2 : p < N) (h3 : unb a N w p = unb a N w (g.pos w)) (hk : wkN (a p).wk = w) : TgI B a N (t + 1) ((g.skip w p).begin a t w) ∧ Turned B a N w g ((g.skip w p).begin a t w) := by
  have hs := h.skip hw h1 (by omega) h3
  have ep : (g.skip w p).pos w = p := updA_at _ _ _
  have hb := hs.begin hw hnow (by rw [ep]; exact h2) (by rw [ep]; exact hk)
  obtain ⟨l1, l2⟩ := hs.begun_lam hw hnow (by rw [ep]; exact h2) (by rw [ep]; exact hk)
  refine ⟨hb, fun v hv hvw => ⟨updA_ne _ _ hvw, ?_⟩, fun v hv => ?_, .inl ?_⟩
  · show updA (updA g.pos w p) w _ v = _
    rw [updA_ne _ _ hvw, updA_ne _ _ hvw]
  · have := l1 v hv
    rw [lam_skip h3] at this; exact this
  · rw [lam_skip h3] at l2
    refine ⟨l2, fun h9 => ?_⟩
    have := unb_take a N w p h2 hk
    have := h9.2
    omega
theorem Turned.ofIdle (h : TgI B a N t g) (hw : w < 4) (hnow : g.now w = none) (h3 : unb a N w N = unb a N w (g.pos w)) : TgI B a N (t + 1) (g.skip w N) ∧ Turned B a N w g (g.skip w N) := by
  have hs := h.skip hw (h.pos w hw) (Nat.le_refl _) h3
  refine ⟨hs.wait, fun v hv hvw => ⟨rfl, updA_ne _ _ hvw⟩, fun v hv => by rw [lam_skip h3]; exact Nat.le_refl _, .inr ⟨hnow, ?_⟩⟩
  rw [show (g.skip w N).pos w = N from updA_at _ _ _]
  exact unb_end _ _ _ _ (Nat.le_refl _)

/-- How many turns of worker v were there ahead of time i. -/
def cnt4 (i v : Nat) : Nat := (i + 3 - v) / 4
/-- Each worker has nothing to do, or is nearer to its end by its turns since time P. -/
def Meas (B : Nat) (a : Nat → HAsk) (N P L i : Nat) (g : Tg) : Prop := ∀ v, v < 4 → Idle a N g v ∨ (i < P ∧ lam B a N g v ≤ L) ∨ (P ≤ i ∧ lam B a N g v + cnt4 i v ≤ L + cnt4 P v)

theorem Meas.turn {P L i : Nat} (h : Meas B a N P L i g) (ht : Turned B a N w g g') (hw : P ≤ i → w = i % 4) : Meas B a N P L (i + 1) g' := by
  intro v hv
  have hle := ht.le v hv
  by_cases e : v = w
  · subst e
    rcases ht.lt with ⟨h1, h0⟩ | h1
    · right
      rcases h v hv with h2 | ⟨h2, h3⟩ | ⟨h2, h3⟩
      · exact absurd h2 h0
      · by_cases hi : i + 1 < P
        · exact .inl ⟨hi, by omega⟩
        · refine .inr ⟨by omega, ?_⟩
          rw [show i + 1 = P by omega]; omega
      · refine .inr ⟨by omega, ?_⟩
        have := hw h2
        unfold cnt4 at *
        omega
    · exact .inl h1
  · obtain ⟨e1, e2⟩ := ht.same v hv e
    rcases h v hv with ⟨h2, h3⟩ | ⟨h2, h3⟩ | ⟨h2, h3⟩
    · exact .inl ⟨by rw [e1]; exact h2, by rw [e2]; exact h3⟩
    · right
      by_cases hi : i + 1 < P
      · exact .inl ⟨hi, by omega⟩
      · refine .inr ⟨by omega, ?_⟩
        rw [show i + 1 = P by omega]; omega
    · refine .inr (.inr ⟨by omega, ?_⟩)
      have := hw h2
      unfold cnt4 at *
      omega

theorem Meas.last {P L M : Nat} (h : Meas B a N P L (P + 4 * M) g) (hM : L < M ∨ (L = 0 ∧ M = 0 ∧ ∀ v, v < 4 → Idle a N g v)) (v : Nat) (hv : v < 4) : Idle a N g v := by
  rcases hM with hM | ⟨_, _, h0⟩
  · rcases h v hv with h1 | ⟨h1, _⟩ | ⟨_, h2⟩
    · exact h1
    · omega
    · unfold cnt4 at h2
      omega
  · exact h0 v hv
theorem TgI.allBegun (h : TgI B a N t g) (hi : ∀ v, v < 4 → Idle a N g v) : g.n = N ∧ (∀ k, k < g.n → 0 ≤ g.en k) := by
  refine ⟨?_, fun k hk => ?_⟩
  · have := h.asks
    unfold sum4 at this
    dsimp only at this
    rw [(hi 0 (by omega)).2, (hi 1 (by omega)).2, (hi 2 (by omega)).2, (hi 3 (by omega)).2] at this
    omega
  · rcases Int.lt_or_le (g.en k) 0 with h1 | h1
    · have := (h.go k hk h1).2.1
      rw [(hi _ (wkN_lt _)).1] at this
      cases this
    · exact h1

/-- Ahead of all. -/
def Tg.none (T : AHt) : Tg := ⟨T, fun _ => [], 0, fun _ => .new default 0 false, fun _ => [], fun _ => [], fun _ => [], fun _ => 0, fun _ => 0, fun _ => 0, fun _ => 0, fun _ => 0, fun _ => .none⟩
theorem sumL_zero (B : Nat) : sumL (fun _ => ([] : List Nat).length) B = 0 := by
  induction B with
  | zero => rfl
  | succ n ih => show sumL _ n + 0 = 0; rw [ih]
theorem TgI.none (a : Nat → HAsk) (N ab : Nat) : TgI B a N 0 (.none (newHt ab 400 B)) := by
  have no : ∀ {k : Nat}, k < (Tg.none (newHt ab 400 B)).n → False := fun h => Nat.not_lt_zero _ h
  have c0 : sumL (fun j => ((Tg.none (newHt ab 400 B)).C j).length) B = 0 := sumL_zero B
  have o0 : sum4 (Tg.none (newHt ab 400 B)).ownW = 0 := rfl
  have n0 : sum4 (Tg.none (newHt ab 400 B)).noW = 0 := rfl
  refine ⟨⟨fun _ _ => rfl, fun _ _ => trivial, fun _ _ => .nil, fun _ _ v hv => absurd hv (List.not_mem_nil)⟩, rfl, rfl, by omega, ?_, ?_, ?_, ?_, fun _ hk => (no hk).elim, fun _ hk => (no hk).elim, fun _ hk => (no hk).elim, fun _ _ _ h => (by cases h), fun _ _ hk => (no hk).elim, fun _ _ hk => (no hk).elim, fun _ _ => Nat.zero_le _, fun _ hk => (no hk).elim, fun _ _ v hv => absurd hv (List.not_mem_nil), fun _ hk => (no hk).elim, fun _ hk => (no hk).elim, fun _ _ hk => (no hk).elim⟩
  · rw [c0, o0]; exact newHt_used ab 400 B
  · rw [n0]; exact Nat.le_refl _
  · rw [c0, o0]; exact Nat.zero_le _
  · show 0 + sum4 (fun w => unb a N w 0) = N
    rw [unb_four]; omega
theorem lam_none (a : Nat → HAsk) (N ab w : Nat) (hw : w < 4) : lam B a N (.none (newHt ab 400 B)) w ≤ N * (N + 5) + N * (N + 4) := by
  have h := unb_four a N
  have h1 : unb a N w 0 ≤ N := by
    unfold sum4 at h
    dsimp only at h
    rcases (by omega : w = 0 ∨ w = 1 ∨ w = 2 ∨ w = 3) with rfl | rfl | rfl | rfl <;> omega
  have h2 := Nat.mul_le_mul_right (N + 5) h1
  have c0 : sumL (fun j => ((Tg.none (newHt ab 400 B)).C j).length) B = 0 := sumL_zero B
  show unb a N w 0 * (N + 5) + (N - sumL (fun j => ((Tg.none (newHt ab 400 B)).C j).length) B) * (N + 4) + 0 ≤ _
  rw [c0]
  show unb a N w 0 * (N + 5) + N * (N + 4) + 0 ≤ _
  omega
theorem turns_enough (N : Nat) (h : 0 < N) : N * (N + 5) + N * (N + 4) < N * (8 * N + 20) := by
  rw [← Nat.mul_add]
  exact Nat.mul_lt_mul_of_pos_left (by omega) h
end Go.Proofs.YtmldighidbfhhaaDoor
namespace Go.Proofs.YtmldighidbfhhaaDoor
open Go Go.RowKit
set_option linter.unusedVariables false

variable {o : List Nat} {w0 w w' : World} {b n m ga gn : Nat} {T : AHt} {obs : Nat → Nat} {qs : Nat → AHop} {lv : Value} {R : Nat → List Value} {F G : Nat → Value} {M : Part}

def InRow (w : World) (p : Option Addr) (n : Nat) (z : Nat → Int) : Prop := (p = none → n = 0) ∧ (0 < n → ∃ b off, p = some ⟨b, off, none⟩ ∧ b < w.heap.size ∧ ∀ i, i < n → w.cell? ⟨b, off + i, none⟩ = some (.int .i64 (z i)))
theorem InRow.cell {p : Option Addr} {z : Nat → Int} (h : InRow w p n z) (k : Kept [] w w') {i : Nat} (hi : i < n) : ∃ b off, p = some ⟨b, off, none⟩ ∧ w'.cell? ⟨b, off + i, none⟩ = some (.int .i64 (z i)) := by
  obtain ⟨b, off, e, _, hc⟩ := h.2 (by omega)
  exact ⟨b, off, e, k.cell (hc i hi) (by simp)⟩

/-- Two blocks of four numbers behind the operations and their rows. -/
noncomputable def Part.tg (M : Part) (lv : Value) (m : Nat) (R : Nat → List Value) (ga gn : Nat) (F G : Nat → Value) : Part :=
  M.sep ((Part.rows 44 7 lv m R).sep ((Part.blk ga 4 3 F).sep (.blk gn 4 3 G)))

theorem tg_now (h : Has o w0 w (.tg M lv m R ga gn F G)) {v : Nat} (hv : v < 4) : w.cell? ⟨gn, v, none⟩ = some (G v) ∧ w.frozen? ⟨gn, v, none⟩ = false ∧ ∀ u, Has o w0 (w.setCell ⟨gn, v, none⟩ u) (.tg M lv m R ga gn F (upd G v u)) := by
  obtain ⟨o1, h1, _, _, b1⟩ := Has.right h
  obtain ⟨o2, h2, _, _, b2⟩ := h1.right
  obtain ⟨o3, h3, _, _, b3⟩ := h2.right
  obtain ⟨c, z, hp⟩ := h3.blkAt hv
  exact ⟨c, z, fun u => b1 _ _ (b2 _ _ (b3 _ _ (hp u)))⟩
theorem tg_pos (h : Has o w0 w (.tg M lv m R ga gn F G)) {v : Nat} (hv : v < 4) : w.cell? ⟨ga, v, none⟩ = some (F v) ∧ w.frozen? ⟨ga, v, none⟩ = false ∧ ∀ u, Has o w0 (w.setCell ⟨ga, v, none⟩ u) (.tg M lv m R ga gn (upd F v u) G) := by
  obtain ⟨o1, h1, _, _, b1⟩ := Has.right h
  obtain ⟨o2, h2, _, _, b2⟩ := h1.right
  obtain ⟨o3, h3, _, _, b3⟩ := h2.left
  obtain ⟨c, z, hp⟩ := h3.blkAt hv
  exact ⟨c, z, fun u => b1 _ _ (b2 _ _ (b3 _ _ (hp u)))⟩
theorem tg_rows (h : Has o w0 w (.tg M lv m R ga gn F G)) : ∃ o', Has o' w w (.rows 44 7 lv m R) ∧ ∀ w' lv' m' R', Has o' w w' (.rows 44 7 lv' m' R') → Has o w0 w' (.tg M lv' m' R' ga gn F G) := by
  obtain ⟨o1, h1, _, _, b1⟩ := Has.right h
  obtain ⟨o2, h2, _, _, b2⟩ := h1.left
  exact ⟨o2, h2, fun w' lv' m' R' h' => b1 _ _ (b2 _ _ h')⟩
theorem tg_ops (h : Has o w0 w (.tg M lv m R ga gn F G)) : ∃ o', Has o' w w M ∧ (∀ x ∈ o', x ∈ o ∨ w0.heap.size ≤ x) ∧ ∀ w' M', Has o' w w' M' → Has o w0 w' (.tg M' lv m R ga gn F G) := by
  obtain ⟨o1, h1, p1, _, b1⟩ := Has.left h
  exact ⟨o1, h1, p1, fun w' M' h' => b1 _ _ h'⟩
theorem tg_congr {R' : Nat → List Value} {F' G' : Nat → Value} (h : Has o w0 w (.tg M lv m R ga gn F G)) (hR : ∀ i, i < m → R i = R' i) (hF : ∀ i, i < 4 → F i = F' i) (hG : ∀ i, i < 4 → G i = G' i) : Has o w0 w (.tg M lv m R' ga gn F' G') := by
  have e : Part.rows 44 7 lv m R = Part.rows 44 7 lv m R' := rows_congr hR
  obtain ⟨fp, ⟨f1, r1, hM, ⟨f2, r2, hR2, ⟨f3, f4, ⟨hA, e3⟩, ⟨hB, e4⟩, d3, e5⟩, d2, e2⟩, d1, e1⟩, hn, k⟩ := h
  rw [e] at hR2
  exact ⟨fp, ⟨f1, r1, hM, ⟨f2, r2, hR2, ⟨f3, f4, ⟨hA.congr hF, e3⟩, ⟨hB.congr hG, e4⟩, d3, e5⟩, d2, e2⟩, d1, e1⟩, hn, k⟩

/-- The rows, and the numbers, of operations under way. -/
def nowI (g : Tg) (v : Nat) : Int := match g.now v with
  | none => -1
  | some k => (k : Int)
def undF (a : Nat → HAsk) (obs : Nat → Nat) (g : Tg) (k : Nat) : List Value :=
  [.int .i64 (a (g.x k)).wk, .bool (a (g.x k)).look, .string (a (g.x k)).key, .int .i64 (a (g.x k)).ref, .pointer (some ⟨obs k, 0, none⟩), .int .i64 (g.bg k), .int .i64 (g.en k)]
def posF (g : Tg) (v : Nat) : Value := .int .i64 (g.pos v : Nat)
def nowF (g : Tg) (v : Nat) : Value := .int .i64 (nowI g v)
noncomputable def Part.tog (b : Nat) (lv : Value) (ga gn : Nat) (obs : Nat → Nat) (a : Nat → HAsk) (g : Tg) : Part :=
  .tg (.many b g.T g.n obs g.q) lv g.n (undF a obs g) ga gn (posF g) (nowF g)

theorem undF_len (a : Nat → HAsk) (obs : Nat → Nat) (g : Tg) (k : Nat) : (undF a obs g k).length = 7 := rfl

/-- The operation of a row, and its cells. -/
theorem tg_row {g : Tg} {a : Nat → HAsk} (h : Has o w0 w (.tg M lv g.n (undF a obs g) ga gn F G)) {k : Nat} (hk : k < g.n) :
    ∃ gl cap, lv = .slice (some ⟨gl, 0, none⟩) g.n cap ∧ (∀ j u, (undF a obs g k)[j]? = some u → w.cell? ⟨gl, k * 7 + j, none⟩ = some u) ∧ w.frozen? ⟨gl, k * 7 + 6, none⟩ = false ∧ g.n ≤ maxLen ∧
      ∀ u, Has o w0 (w.setCell ⟨gl, k * 7 + 6, none⟩ u) (.tg M lv g.n (fun d => if d = k then (undF a obs g k).set 6 u else undF a obs g d) ga gn F G) := by
  obtain ⟨o1, h1, b1⟩ := tg_rows h
  obtain ⟨gl, cap, e, hc, hf, hs⟩ := h1.rowsAt (undF_len a obs g) hk
  exact ⟨gl, cap, e, hc, hf _, h1.rowsSmall, fun u => b1 _ _ _ _ (hs 6 u (by omega))⟩
theorem tog_row {g : Tg} {a : Nat → HAsk} (h : Has o w0 w (.tog b lv ga gn obs a g)) {k : Nat} (hk : k < g.n) :
    ∃ gl cap, lv = .slice (some ⟨gl, 0, none⟩) g.n cap ∧ (∀ j u, (undF a obs g k)[j]? = some u → w.cell? ⟨gl, k * 7 + j, none⟩ = some u) ∧ g.n ≤ maxLen := by
  obtain ⟨gl, cap, e, h1, _, h2, _⟩ := tg_row h hk
  exact ⟨gl, cap, e, h1, h2⟩
theorem tog_next {g' : Tg} {a : Nat → HAsk} {n' : Nat} (h : Has o w0 w (.tg (.many b T n' obs qs) lv n' R ga gn F G)) (eT : g'.T = T) (en : g'.n = n') (eq : g'.q = qs) (hR : ∀ i, i < n' → R i = undF a obs g' i) (hF : ∀ i, i < 4 → F i = posF g' i) (hG : ∀ i, i < 4 → G i = nowF g' i) : Has o w0 w (.tog b lv ga gn obs a g') := by
  have := tg_congr h hR hF hG
  unfold Part.tog
  rw [eT, en, eq]
  exact this
theorem TgI.cast {B N : Nat} {a : Nat → HAsk} {i : Nat} {g : Tg} (h : TgI B a N ((i : Int) + 1) g) : TgI B a N ((i + 1 : Nat) : Int) g := by
  rw [show ((i + 1 : Nat) : Int) = (i : Int) + 1 by omega]; exact h
theorem tog_slice {g : Tg} {a : Nat → HAsk} (h : Has o w0 w (.tog b lv ga gn obs a g)) : ∃ p c, lv = .slice p g.n c := by
  obtain ⟨o1, h1, b1⟩ := tg_rows h
  exact h1.rowsSlice

/-- A step of an operation in memory. -/
theorem tog_step {g : Tg} {a : Nat → HAsk} (h : Has [] w0 w (.tog b lv ga gn obs a g)) {k : Nat} (hk : k < g.n) (hT : TabAt w0) (hB : 0 < g.T.nB) (hB9 : g.T.nB ≤ 256) (hn : g.T.nE ≤ 65536) (hfree : g.T.used < g.T.size) (hok : HOk g.T (g.q k)) (tabs : 0 < w0.heap.size) :
    Calls Tryd.prog 21 #[.pointer (some ⟨obs k, 0, none⟩)] w fun e w' => e = .returned (.bool (hstep g.T (g.q k)).2.2) ∧ Has [] w0 w' (.tg (.many b (hstep g.T (g.q k)).1 g.n obs (updQ g.q k (hstep g.T (g.q k)).2.1)) lv g.n (undF a obs g) ga gn (posF g) (nowF g)) := by
  obtain ⟨o1, h1, p1, b1⟩ := tg_ops h
  have ho : 0 ∉ o1 := fun hm => by
    rcases p1 _ hm with h2 | h2
    · cases h2
    · omega
  refine (many_step h1 hk (hT.kept h.keeps (by simp)) ho hB hB9 hn hfree hok).mono ?_
  rintro e w' ⟨rfl, h'⟩
  exact ⟨rfl, b1 _ _ h'⟩
/-- What one that is over says, in memory. -/
theorem tog_ref {g : Tg} {a : Nat → HAsk} (h : Has o w0 w (.tog b lv ga gn obs a g)) {k : Nat} (hk : k < g.n) (h4 : (g.q k).next = 4) :
    Calls Tryd.prog 13 #[.pointer (some ⟨obs k, 0, none⟩)] w fun e w' => e = .returned (.tuple #[.int .i64 (g.q k).ref, .bool (g.q k).had, .int .i64 (g.q k).code]) ∧ Has o w0 w' (.tog b lv ga gn obs a g) := by
  obtain ⟨o1, h1, p1, b1⟩ := tg_ops h
  refine (many_ref h1 hk h4).mono ?_
  rintro e w' ⟨rfl, h'⟩
  exact ⟨rfl, b1 _ _ h'⟩

theorem TgI.room {B N : Nat} {a : Nat → HAsk} {t : Int} {g : Tg} (h : TgI B a N t g) (hN : N ≤ 60) (hB : 1 ≤ B) (hB2 : B ≤ 256) : 0 < g.T.nB ∧ g.T.nB ≤ 256 ∧ g.T.nE ≤ 65536 ∧ g.T.used < g.T.size := by
  have h1 := h.used
  have h2 := h.put
  have h3 := h.nE
  have h4 := h.nN
  rw [h.nB, h.size]
  omega
/-- A row whose operation has ended. -/
theorem undF_end (a : Nat → HAsk) (obs : Nat → Nat) (g g' : Tg) (k : Nat) (t : Int) (hx : g'.x = g.x) (hb : g'.bg = g.bg) (he : g'.en = updA g.en k t) (d : Nat) : (if d = k then (undF a obs g k).set 6 (.int .i64 t) else undF a obs g d) = undF a obs g' d := by
  unfold undF
  rw [hx, hb, he]
  by_cases e : d = k
  · subst e; rw [if_pos rfl, updA_at]; rfl
  · rw [if_neg e, updA_ne _ _ e]
theorem undF_same (a : Nat → HAsk) (obs : Nat → Nat) (g g' : Tg) (hx : g'.x = g.x) (hb : g'.bg = g.bg) (he : g'.en = g.en) (d : Nat) : undF a obs g d = undF a obs g' d := by
  unfold undF
  rw [hx, hb, he]
theorem nowF_end (g g' : Tg) (v : Nat) (h : g'.now = updA g.now v none) (d : Nat) : upd (nowF g) v (.int .i64 (-1)) d = nowF g' d := by
  unfold upd nowF nowI
  rw [h]
  by_cases e : d = v
  · subst e; rw [if_pos rfl, updA_at]
  · rw [if_neg e, updA_ne _ _ e]
/-- An ask that begins, in memory. -/
theorem undF_begin (a : Nat → HAsk) (obs : Nat → Nat) (ob : Nat) (g : Tg) (t : Int) (v : Nat) (d : Nat) (hd : d < g.n + 1) :
    (if d = g.n then [.int .i64 (a (g.pos v)).wk, .bool (a (g.pos v)).look, .string (a (g.pos v)).key, .int .i64 (a (g.pos v)).ref, .pointer (some ⟨ob, 0, none⟩), .int .i64 t, .int .i64 (-1)] else undF a obs g d) = undF a (fun j => if j = g.n then ob else obs j) (g.begin a t v) d := by
  unfold undF
  dsimp only
  by_cases e : d = g.n
  · subst e
    rw [if_pos rfl, if_pos rfl, show (g.begin a t v).x g.n = g.pos v from updA_at _ _ _, show (g.begin a t v).bg g.n = t from updA_at _ _ _, show (g.begin a t v).en g.n = -1 from updA_at _ _ _]
  · rw [if_neg e, if_neg e, show (g.begin a t v).x d = g.x d from updA_ne _ _ e, show (g.begin a t v).bg d = g.bg d from updA_ne _ _ e, show (g.begin a t v).en d = g.en d from updA_ne _ _ e]
theorem posF_upd (g : Tg) (v p : Nat) (d : Nat) : upd (posF g) v (.int .i64 (p : Nat)) d = posF (g.skip v p) d := by
  unfold upd posF Tg.skip updA
  dsimp only
  split <;> rfl
theorem posF_begin (g : Tg) (a : Nat → HAsk) (t : Int) (v : Nat) (d : Nat) : upd (posF g) v (.int .i64 ((g.pos v + 1 : Nat) : Int)) d = posF (g.begin a t v) d := by
  unfold upd posF Tg.begin updA
  dsimp only
  split <;> rfl
theorem nowF_begin (g : Tg) (a : Nat → HAsk) (t : Int) (v : Nat) (d : Nat) : upd (nowF g) v (.int .i64 (g.n : Nat)) d = nowF (g.begin a t v) d := by
  unfold upd nowF nowI Tg.begin updA
  dsimp only
  split <;> rfl
theorem wk_walk (z : Int) : (wrap64 (z.tmod 4 + 4)).tmod 4 = (wkN z : Int) := by
  have h1 := Int.tmod_lt_of_pos z (b := 4) (by omega)
  have h2 := Int.lt_tmod_of_pos z (b := 4) (by omega)
  rw [show wrap64 (z.tmod 4 + 4) = z.tmod 4 + 4 by unfold wrap64; omega, wkN_eq]
  rfl
end Go.Proofs.YtmldighidbfhhaaDoor
namespace Go.Proofs.YtmldighidbfhhaaDoor
open Go Go.Shelf Go.RowKit Go.Sort Go.Proofs
def sh_laysSlM6_f30_ren : Go.Shelf.Ren := ⟨fun | 6 => 30 | 8 => 41 | 9 => 40 | 19 => 54 | 20 => 55 | 21 => 45 | 22 => 46 | 23 => 47 | 24 => 48 | 25 => 49 | 26 => 50 | 27 => 51 | 28 => 52 | 29 => 53 | 36 => 56 | 31 => 57 | 32 => 58 | 37 => 59 | 38 => 60 | 39 => 61 | 41 => 62 | n => n, fun | 27 => 49 | 29 => 9 | 3 => 3 | 32 => 90 | 26 => 49 | 0 => 0 | 44 => 29 | 46 => 67 | 4 => 4 | 36 => 100 | 35 => 99 | 41 => 105 | 5 => 5 | 9 => 9 | 53 => 110 | 57 => 114 | 63 => 116 | 64 => 117 | n => n, fun | n => n⟩
theorem sh_laysSlM6_f30 : Go.Proofs.SlLaysM.n6 Tryd.prog sh_laysSlM6_f30_ren := {
  mixed := by kernel_rfl
  f6 := ⟨Tryd.f30.name, by decide, Tryd.func30.trans (congrArg some (by kernel_rfl))⟩
  f8 := Tryd.func41.trans (congrArg some (by kernel_rfl))
  f9 := ⟨Tryd.f40.name, by decide, Tryd.func40.trans (congrArg some (by kernel_rfl))⟩
  f19 := Tryd.func54.trans (congrArg some (by kernel_rfl))
  f20 := Tryd.func55.trans (congrArg some (by kernel_rfl))
  f21 := ⟨Tryd.f45.name, by decide, Tryd.func45.trans (congrArg some (by kernel_rfl))⟩
  f22 := ⟨Tryd.f46.name, by decide, Tryd.func46.trans (congrArg some (by kernel_rfl))⟩
  f23 := ⟨Tryd.f47.name, by decide, Tryd.func47.trans (congrArg some (by kernel_rfl))⟩
  f24 := ⟨Tryd.f48.name, by decide, Tryd.func48.trans (congrArg some (by kernel_rfl))⟩
  f25 := ⟨Tryd.f49.name, by decide, Tryd.func49.trans (congrArg some (by kernel_rfl))⟩
  f26 := ⟨Tryd.f50.name, by decide, Tryd.func50.trans (congrArg some (by kernel_rfl))⟩
  f27 := ⟨Tryd.f51.name, by decide, Tryd.func51.trans (congrArg some (by kernel_rfl))⟩
  f28 := ⟨Tryd.f52.name, by decide, Tryd.func52.trans (congrArg some (by kernel_rfl))⟩
  f29 := ⟨Tryd.f53.name, by decide, Tryd.func53.trans (congrArg some (by kernel_rfl))⟩
  f31 := Tryd.func57.trans (congrArg some (by kernel_rfl))
  f32 := Tryd.func58.trans (congrArg some (by kernel_rfl))
  f36 := ⟨Tryd.f56.name, by decide, Tryd.func56.trans (congrArg some (by kernel_rfl))⟩
  f37 := ⟨Tryd.f59.name, by decide, Tryd.func59.trans (congrArg some (by kernel_rfl))⟩
  f38 := ⟨Tryd.f60.name, by decide, Tryd.func60.trans (congrArg some (by kernel_rfl))⟩
  f39 := ⟨Tryd.f61.name, by decide, Tryd.func61.trans (congrArg some (by kernel_rfl))⟩
  f41 := ⟨Tryd.f62.name, by decide, Tryd.func62.trans (congrArg some (by kernel_rfl))⟩
  t0 := Tryd.underlying0
  a0 := Tryd.isAgg0
  z0 := Tryd.sizeOf0
  v0 := Tryd.zeroValue0
  t3 := Tryd.underlying3
  a3 := Tryd.isAgg3
  z3 := Tryd.sizeOf3
  v3 := Tryd.zeroValue3
  t4 := Tryd.underlying4
  a4 := Tryd.isAgg4
  z4 := Tryd.sizeOf4
  v4 := Tryd.zeroValue4
  t5 := Tryd.underlying5
  a5 := Tryd.isAgg5
  z5 := Tryd.sizeOf5
  v5 := Tryd.zeroValue5
  t9 := Tryd.underlying9
  a9 := Tryd.isAgg9
  z9 := Tryd.sizeOf9
  v9 := Tryd.zeroValue9
  t26 := Tryd.underlying49
  a26 := Tryd.isAgg49
  z26 := Tryd.sizeOf49
  v26 := Tryd.zeroValue49
  t27 := Tryd.underlying49
  a27 := Tryd.isAgg49
  z27 := Tryd.sizeOf49
  v27 := Tryd.zeroValue49
  t29 := Tryd.underlying9
  a29 := Tryd.isAgg9
  z29 := Tryd.sizeOf9
  v29 := Tryd.zeroValue9
  t32 := Tryd.underlying90
  a32 := Tryd.isAgg90
  z32 := Tryd.sizeOf90
  v32 := Tryd.zeroValue90
  t35 := Tryd.underlying99
  a35 := Tryd.isAgg99
  z35 := Tryd.sizeOf99
  v35 := Tryd.zeroValue99
  t36 := Tryd.underlying100
  a36 := Tryd.isAgg100
  z36 := Tryd.sizeOf100
  v36 := Tryd.zeroValue100
  t41 := Tryd.underlying105
  a41 := Tryd.isAgg105
  z41 := Tryd.sizeOf105
  v41 := Tryd.zeroValue105
  t44 := Tryd.underlying29
  a44 := Tryd.isAgg29
  z44 := Tryd.sizeOf29
  v44 := Tryd.zeroValue29
  t46 := Tryd.underlying67
  a46 := Tryd.isAgg67
  z46 := Tryd.sizeOf67
  v46 := Tryd.zeroValue67
  t53 := Tryd.underlying110
  a53 := Tryd.isAgg110
  z53 := Tryd.sizeOf110
  v53 := Tryd.zeroValue110
  t57 := Tryd.underlying114
  a57 := Tryd.isAgg114
  z57 := Tryd.sizeOf114
  v57 := Tryd.zeroValue114
  t63 := Tryd.underlying116
  a63 := Tryd.isAgg116
  z63 := Tryd.sizeOf116
  v63 := Tryd.zeroValue116
  t64 := Tryd.underlying117
  a64 := Tryd.isAgg117
  z64 := Tryd.sizeOf117
  v64 := Tryd.zeroValue117 }
theorem sh_slices_Sort_string (blk off cap : Nat) (ss : List (List UInt8)) (w : World) (hH : Holds encStr w blk off ss.toArray) (hblk : blk < w.heap.size) (hsz : ss.length < 4611686018427387904) :
    Calls Tryd.prog 30 #[.slice (some ⟨blk, off, none⟩) ss.length cap] w fun e w' =>
      e = .returned (.tuple #[]) ∧ ∃ n os, w' = grow (putRow encStr (Sort.ahead w n) blk off (ss.mergeSort fun x y => decide (x ≤ y)).toArray) os := AnyM.slices_Sort_string sh_laysSlM6_f30 blk off cap ss w hH hblk hsz
theorem sh_slices_Sort_string_none (p : Option Addr) (cap : Nat) (w : World) :
    Calls Tryd.prog 30 #[.slice p 0 cap] w fun e w' => e = .returned (.tuple #[]) ∧ w' = w := AnyM.slices_Sort_string_none sh_laysSlM6_f30 p cap w
end Go.Proofs.YtmldighidbfhhaaDoor
namespace Go.Proofs.YtmldighidbfhhaaDoor
open Go Go.RowKit Go.Sort
set_option linter.unusedVariables false

variable {o : List Nat} {w0 w : World}

/-- Texts as the sort speaks of them. -/
def byt (k : ByteArray) : List UInt8 := k.data.toList
theorem enc_byt (k : ByteArray) : encStr (byt k) = .string k := rfl
def unbyt (l : List UInt8) : ByteArray := ⟨l.toArray⟩
theorem byt_unb (l : List UInt8) : byt (unbyt l) = l := rfl
def sortK (l : List ByteArray) : List ByteArray := ((l.map byt).mergeSort fun x y => decide (x ≤ y)).map unbyt
theorem sortK_enc (l : List ByteArray) : (sortK l).map Value.string = ((l.map byt).mergeSort fun x y => decide (x ≤ y)).map encStr := by
  unfold sortK; rw [List.map_map]; rfl
theorem map_enc (l : List ByteArray) : l.map Value.string = (l.map byt).map encStr := by rw [List.map_map]; rfl
theorem map_back (l : List ByteArray) : (l.map byt).map unbyt = l := by
  rw [List.map_map]
  have : (unbyt ∘ byt) = id := funext fun k => rfl
  rw [this, List.map_id]
theorem sortK_perm (l : List ByteArray) : (sortK l).Perm l := by
  have h := (List.mergeSort_perm (l.map byt) fun x y => decide (x ≤ y)).map unbyt
  rw [map_back] at h
  exact h
theorem sortK_len (l : List ByteArray) : (sortK l).length = l.length := (sortK_perm l).length_eq

/-- A row of texts. -/
noncomputable def Part.strs (v : Value) (l : List ByteArray) : Part := .row 9 1 v l.length (l.map Value.string)

theorem sort_walk {v : Value} {l : List ByteArray} (h : Has o w0 w (.strs v l)) (hl : l.length ≤ 4000000000000000000) :
    Calls Tryd.prog 30 #[v] w fun e w' => e = .returned (.tuple #[]) ∧ Has o w0 w' (.strs v (sortK l)) := by
  obtain ⟨fp, ⟨hr, rfl⟩, hn, k⟩ := h
  have hlen : (l.map byt).length = l.length := List.length_map _
  rcases hr.2 with ⟨rfl, h0⟩ | ⟨g, cap, cur, rfl, hbase, hb, h1, h2, h3, h4⟩
  · rw [h0] at hlen
    refine (sh_slices_Sort_string_none none 0 w).mono ?_
    rintro e w' ⟨rfl, rfl⟩
    obtain rfl : l = [] := List.eq_nil_of_length_eq_zero h0
    refine ⟨rfl, [], ⟨?_, by simp [rowsOf, Value.ownBlock]⟩, by simp, ?_⟩
    · have : sortK [] = [] := List.eq_nil_of_length_eq_zero (by rw [sortK_len]; rfl)
      rw [this]; exact hr
    · exact k
  · have hc := sh_slices_Sort_string g 0 cap (l.map byt) w (holds_of_block hb (by rw [hlen, ← map_enc]; simpa using h4)) (Array.getElem?_eq_some_iff.1 hb).1 (by rw [hlen]; omega)
    rw [hlen] at hc
    refine hc.mono ?_
    rintro e w' ⟨rfl, n, os, rfl⟩
    refine ⟨rfl, Has.step hn k ⟨_, ⟨?_, rfl⟩, fun x hx => .inl hx, ?_⟩⟩
    · have := ownsRow_sorted (n := n) (os := os) (ss := l.map byt) (ts := (l.map byt).mergeSort fun x y => decide (x ≤ y)) (by simp) hbase hb (by rw [hlen]; exact h1) h2 h3
      rw [hlen, ← sortK_enc] at this
      rw [sortK_len]; exact this
    · exact (Kept.refl _ w).grown (grownBy_sorted _) fun b _ e => by simp [mem_rowsOf, Value.ownBlock, e]
end Go.Proofs.YtmldighidbfhhaaDoor
