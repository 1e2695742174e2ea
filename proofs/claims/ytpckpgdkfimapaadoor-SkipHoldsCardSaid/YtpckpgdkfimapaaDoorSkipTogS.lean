/- A step of an operation under way, among those of four workers: what is kept, and how far a worker is from its end. Nothing is claimed of a program here. -/
import Derived.Test.YtpckpgdkfimapaaDoorSkipTogI
namespace Go.Proofs.YtpckpgdkfimapaaDoor
open Go Go.RowKit
set_option linter.unusedVariables false

variable {a : Nat → SAsk} {N : Nat} {t : Int} {g : Tg} {w k : Nat}

/-- Lists without doubles that hold the same. -/
theorem len_le {α : Type} [DecidableEq α] : ∀ (l m : List α), l.Nodup → (∀ x ∈ l, x ∈ m) → l.length ≤ m.length
  | [], m, _, _ => Nat.zero_le _
  | x :: l, m, h, hs => by
    rw [List.nodup_cons] at h
    have hx := hs x (by simp)
    have h2 := len_le l (m.erase x) h.2 fun y hy => by
      have : y ≠ x := fun e => h.1 (e ▸ hy)
      exact (List.mem_erase_of_ne this).2 (hs y (by simp [hy]))
    rw [List.length_erase_of_mem hx] at h2
    have := List.length_pos_of_mem hx
    simp only [List.length_cons]
    omega
theorem Skp.len {T : ASk} {C : Nat → List Nat} (h : Skp T C) {l : Nat} (hl : l < 8) : (C l).length + 1 ≤ T.nN := by
  have hnd : (C l).Nodup := (h.srt l hl).imp fun {u v} hk e => by rw [e] at hk; exact kl_irrefl _ hk
  have := len_le (0 :: C l) (List.range T.nN) (List.nodup_cons.2 ⟨fun hm => by have := (h.mem l hl 0 hm).1; omega, hnd⟩) fun x hx => by
    rw [List.mem_range]
    rcases List.mem_cons.1 hx with rfl | hx
    · exact h.one
    · exact (h.mem l hl x hx).2.1
  simpa using this
theorem TgI.nLe (h : TgI a N t g) : g.n ≤ N := by have := h.asks; omega
theorem TgI.nNle (h : TgI a N t g) : g.T.nN ≤ N + 1 := by
  have h1 := h.nN
  have h2 := h.nLe
  have h3 := sumL_le (f := fun k => own01 (g.q k)) (c := 1) (n := g.n) fun k _ => by unfold own01; split <;> omega
  omega
theorem TgI.len (h : TgI a N t g) {l : Nat} (hl : l < 8) : (g.C l).length ≤ N := by
  have := h.skp.len hl
  have := h.nNle
  omega
theorem TgI.usedLe (h : TgI a N t g) : g.T.used ≤ 8 + 8 * N := by
  have h1 := h.used
  have h2 := h.nLe
  have h3 := sumL_le (f := fun k => useQ (g.q k)) (c := 8) (n := g.n) fun k hk => by
    have := (h.key k hk).2.2.2.2.2.2.2.2
    show useQ (g.q k) ≤ 8
    unfold useQ
    split <;> omega
  omega

/-- Links that are to be made yet. -/
def room (C : Nat → List Nat) (N : Nat) : Nat := sumL (fun l => N - (C l).length) 8
def Tg.costW (g : Tg) (N w : Nat) : Nat := match g.now w with
  | none => 0
  | some k => cost N g.T g.C (g.q k)
/-- How far a worker is from its end. -/
def lam (a : Nat → SAsk) (N : Nat) (g : Tg) (w : Nat) : Nat := unb a N w (g.pos w) * (N + 25) + room g.C N * (N + 11) + g.costW N w

theorem cost_pos {T : ASk} {C : Nat → List Nat} {q : ASop} {D : List Nat} (i : OpI T C q D) : 1 ≤ cost N T C q := by
  have hl : q.linked.toNat < 8 := by
    rcases i.own with e | ⟨m, j, e1, e2, _, _, _, _, _, _, _, e10, _⟩
    · omega
    · have := i.height; omega
  unfold cost left
  split
  · omega
  split
  · omega
  split <;> omega
theorem room_ins {C C' : Nat → List Nat} {l : Nat} (hl : l < 8) (h1 : (C' l).length = (C l).length + 1) (h2 : ∀ j, j ≠ l → C' j = C j) (h3 : (C' l).length ≤ N) : room C' N + 1 = room C N := by
  have := sumL_one (f := fun l => N - (C l).length) (h := fun l => N - (C' l).length) (n := 8) hl fun j _ hj => by rw [h2 j hj]
  unfold room
  omega
theorem rank_rest {T T' : ASk} {C C' : Nat → List Nat} {own : Int} (hs : Skp T C) (h : Rest T T' C C' own) {p : Nat} (hp : p < T.nN) : rank T C p ≤ rank T' C' p := by
  unfold rank
  have e : (C 0).countP (fun u => decide (p ≠ 0) && !(lessB (ky T p) (ky T u))) = (C 0).countP (fun u => decide (p ≠ 0) && !(lessB (ky T' p) (ky T' u))) :=
    List.countP_congr fun u hu => by rw [h.ky hp, h.ky (hs.mem 0 (by omega) u hu).2.1]
  rw [e]
  exact (h.sub 0 (by omega)).countP_le
theorem left_rest {T T' : ASk} {C C' : Nat → List Nat} {own : Int} {q : ASop} {D : List Nat} (hs : Skp T C) (h : Rest T T' C C' own) (i : OpI T C q D) : left N T' C' q ≤ left N T C q := by
  unfold left
  by_cases hb : q.begun = false
  · rw [if_pos hb, if_pos hb]; exact Nat.le_refl _
  rw [if_neg hb, if_neg hb]
  by_cases hd : q.does = 0
  · rw [if_pos hd, if_pos hd]
    obtain ⟨p, l, e1, _, e3, e4⟩ := i.walk (by simpa using hb) hd
    have hp : p < T.nN := by
      rcases e4.mem with e | e
      · have := hs.one; omega
      · exact (hs.mem l e3 p e).2.1
    have := rank_rest hs h hp
    rw [e1, Int.toNat_natCast]
    omega
  · rw [if_neg hd, if_neg hd]; exact Nat.le_refl _
theorem cost_any {T T' : ASk} {C C' : Nat → List Nat} {own : Int} {q : ASop} {D : List Nat} (hs : Skp T C) (h : Rest T T' C C' own) (i : OpI T C q D) : cost N T' C' q ≤ cost N T C q + (N + 10) := by
  have := left_rest (N := N) hs h i
  unfold cost
  split <;> split <;> omega
theorem cost_same {T T' : ASk} {C : Nat → List Nat} {own : Int} {q : ASop} {D : List Nat} (hs : Skp T C) (h : Rest T T' C C own) (i : OpI T C q D) (hn : ∀ l : Nat, l < 8 → ∀ p : Nat, p = 0 ∨ p ∈ C l → (T'.E p).nx l = (T.E p).nx l) : cost N T' C q ≤ cost N T C q := by
  refine Nat.add_le_add (left_rest hs h i) ?_
  by_cases hb : q.begun = true
  · refine stale_le fun l hl h1 => ⟨hb, ?_⟩
    unfold staleAt at h1 ⊢
    simp only [Bool.and_eq_true, decide_eq_true_eq] at h1 ⊢
    obtain ⟨h1, h2, h3⟩ := h1
    refine ⟨h1, h2, ?_⟩
    obtain ⟨p, s, f1, f2, f3, _⟩ := i.past hb l hl (fun hd => by
      unfold seenB at h1
      simp only [Bool.or_eq_true, decide_eq_true_eq] at h1
      exact h1.resolve_left fun h => h hd)
    rw [f1, Int.toNat_natCast, hn l hl p f3.mem] at h3
    rw [f1, Int.toNat_natCast]; exact h3
  · have : ∀ T : ASk, stale T q = false := fun T => by unfold stale; rw [Bool.not_eq_true] at hb; rw [hb]; rfl
    rw [this T, this T']; exact Nat.le_refl _

theorem TgI.begun_lam (h : TgI a N t g) (hw : w < 4) (hnow : g.now w = none) (hp : g.pos w < N) (hk : wkN (a (g.pos w)).wk = w) :
    (∀ v, v < 4 → lam a N (g.begin a t w) v ≤ lam a N g v) ∧ lam a N (g.begin a t w) w < lam a N g w := by
  have hlt : lam a N (g.begin a t w) w < lam a N g w := by
    have hb := (op_new (a (g.pos w))).1
    have e1 : (g.begin a t w).costW N w = N + 24 := by
      unfold Tg.costW
      rw [show (g.begin a t w).now w = some g.n from updA_at _ _ _]
      show cost N g.T g.C ((g.begin a t w).q g.n) = N + 24
      rw [show (g.begin a t w).q g.n = (a (g.pos w)).op from updA_at _ _ _]
      unfold cost
      rw [left_new hb, show stale g.T (a (g.pos w)).op = false by unfold stale; rw [hb]; rfl]
      rfl
    have e2 : (g.begin a t w).pos w = g.pos w + 1 := updA_at _ _ _
    have e3 := unb_take a N w (g.pos w) hp hk
    have e4 : g.costW N w = 0 := by unfold Tg.costW; rw [hnow]
    have e5 : (g.begin a t w).C = g.C := rfl
    unfold lam
    rw [e1, e2, ← e3, e4, e5, Nat.add_mul]
    omega
  refine ⟨fun v hv => ?_, hlt⟩
  by_cases e : v = w
  · subst e; omega
  · have e1 : (g.begin a t w).costW N v = g.costW N v := by
      unfold Tg.costW
      rw [show (g.begin a t w).now v = g.now v from updA_ne _ _ e]
      cases hn : g.now v with
      | none => rfl
      | some l =>
        have hl : l ≠ g.n := by have := (h.now v hv l hn).1; omega
        show cost N g.T g.C ((g.begin a t w).q l) = _
        rw [show (g.begin a t w).q l = g.q l from updA_ne _ _ hl]
    unfold lam
    rw [e1, show (g.begin a t w).pos v = g.pos v from updA_ne _ _ e]
    exact Nat.le_refl _

theorem Said.ref {T : ASk} {C : Nat → List Nat} {q : ASop} {r r' : Int} {D : List Nat} (h : Said T C q r D) (e : q.kind = 0 → r = r') : Said T C q r' D := by
  obtain ⟨h1, h2⟩ := h
  refine ⟨h1, h2.imp id fun ⟨a1, a2, a3⟩ => ⟨a1, a2, ?_⟩⟩
  rcases a3 with h | h | h | h | ⟨b1, b2, b3, b4, v, b5, b6, b7, b8⟩
  · exact .inl h
  · exact .inr (.inl h)
  · exact .inr (.inr (.inl h))
  · exact .inr (.inr (.inr (.inl h)))
  · rw [e b1] at b4 b8
    exact .inr (.inr (.inr (.inr ⟨b1, b2, b3, b4, v, b5, b6, b7, b8⟩)))

/-- What a turn of a worker's operation comes to. -/
structure Stepped (a : Nat → SAsk) (N : Nat) (t : Int) (w k : Nat) (g g' : Tg) : Prop where
  inv : TgI a N (t + 1) g'
  n : g'.n = g.n
  T : g'.T = (stepS g.T (g.q k)).1
  q : g'.q = updA g.q k (stepS g.T (g.q k)).2.1
  x : g'.x = g.x
  bg : g'.bg = g.bg
  pos : g'.pos = g.pos
  en : ((stepS g.T (g.q k)).2.2 = false ∧ g'.en = g.en ∧ g'.now = g.now) ∨ ((stepS g.T (g.q k)).2.2 = true ∧ g'.en = updA g.en k t ∧ g'.now = updA g.now w none)
  lam : (∀ v, v < 4 → lam a N g' v ≤ lam a N g v) ∧ lam a N g' w < lam a N g w

/-- A step that asks for nothing takes no node. -/
theorem stepS_own {T : ASk} {q : ASop} (hk : q.kind ≠ 0) (ho : q.own = 0) : (stepS T q).2.1.own = 0 := by
  have arr : ∀ (T : ASk) (q : ASop) (v : Int), q.kind ≠ 0 → q.own = 0 → (arrS T q v).2.1.own = 0 := fun T q v hk ho => by
    unfold arrS
    split
    · exact ho
    · exact ho
  have walk : ∀ (T : ASk) (q : ASop), q.kind ≠ 0 → q.own = 0 → (walkS T q).2.1.own = 0 := fun T q hk ho => by
    unfold walkS
    dsimp only
    split
    · exact ho
    split
    · exact ho
    · exact arr _ _ _ hk ho
  unfold stepS
  split
  · exact ho
  split
  · split
    · exact ho
    · exact walk _ _ hk ho
  split
  · exact walk _ _ hk ho
  split
  · exact ho
  split
  · show (linkQ q _).1.own = 0
    unfold linkQ
    split <;> exact ho
  · exact ho

theorem TgI.stepped (h : TgI a N t g) (hw : w < 4) (hnow : g.now w = some k) : ∃ g', Stepped a N t w k g g' := by
  obtain ⟨hkn, hkw, hke⟩ := h.now w hw k hnow
  obtain ⟨hk1, hk2, hk3, hk4⟩ := h.go k hkn hke
  obtain ⟨x1, x2, x3, x4, x5, x6, x7, x8, x9⟩ := h.key k hkn
  obtain ⟨C', R⟩ := step_law (N := N) h.skp hk4 (h.len (by omega))
  have hno : (g.q k).kind ≠ 0 → (stepS g.T (g.q k)).2.1.own = 0 := fun hk => stepS_own hk (h.noown k hkn hk)
  generalize hr : stepS g.T (g.q k) = r at *
  obtain ⟨T', q', d⟩ := r
  obtain ⟨r1, r2, ⟨r3a, r3b, r3c⟩, r4, r5, r6, r7, r8, r9⟩ := R
  dsimp only at *
  obtain ⟨e, he⟩ : ∃ e : Int, e = if d = true then t else -1 := ⟨_, rfl⟩
  obtain ⟨z, hz⟩ : ∃ z : Option Nat, z = if d = true then none else some k := ⟨_, rfl⟩
  let g' : Tg := { g with T := T', C := C', q := updA g.q k q', en := updA g.en k e, now := updA g.now w z }
  have hcase : (d = false ∧ e = -1 ∧ z = some k ∧ OpI T' C' q' (g.D k) ∧ q'.ref = (g.q k).ref) ∨ (d = true ∧ e = t ∧ z = none ∧ Said T' C' q' (g.q k).ref (g.D k)) := by
    rcases r8 with ⟨a1, a2, a3⟩ | ⟨a1, a2⟩
    · exact .inl ⟨a1, by rw [he, a1]; rfl, by rw [hz, a1]; rfl, a2, a3⟩
    · exact .inr ⟨a1, by rw [he, a1]; rfl, by rw [hz, a1]; rfl, a2⟩
  clear he hz
  have htime := h.time
  have ho : ∀ l, l ≠ k → g'.q l = g.q l ∧ g'.en l = g.en l := fun l hl => ⟨updA_ne _ _ hl, updA_ne _ _ hl⟩
  have nq : g'.q k = q' := updA_at _ _ _
  have nen : g'.en k = e := updA_at _ _ _
  have nnow : g'.now w = z := updA_at _ _ _
  have onow : ∀ v, v ≠ w → g'.now v = g.now v := fun v hv => updA_ne _ _ hv
  have lk : ∀ v, v < 4 → v ≠ w → ∀ l, g.now v = some l → l ≠ k := fun v hv hvw l hl e9 => by
    obtain ⟨_, b2, _⟩ := h.now v hv l hl
    rw [e9, hkw] at b2
    exact hvw b2.symm
  have hmem : ∀ v ∈ g.C 0, v < g.T.nN := fun v hv => (h.skp.mem 0 (by omega) v hv).2.1
  have hin : ∀ v ∈ g.C 0, v ∈ C' 0 := fun v hv => (r2.sub 0 (by omega)).subset hv
  have hky : ∀ v ∈ g.C 0, ky T' v = ky g.T v := fun v hv => r2.ky (hmem v hv)
  -- an operation's own node stays its own
  have hownk : (g.q k).own ≠ 0 → q'.own = (g.q k).own := fun h0 => r4.resolve_right fun h9 => h0 h9.1
  have hownv : ∀ l v, l < g.n → v ∈ C' 0 → (g.q l).own = (v : Int) → (g'.q l).own = (v : Int) := fun l v hl hv e9 => by
    by_cases el : l = k
    · subst el
      rw [nq]
      rw [hownk (by have := (r1.mem 0 (by omega) v hv).1; omega)]; exact e9
    · rw [(ho l el).1]; exact e9
  -- who put a node in
  have hwho : ∀ v ∈ C' 0, ∃ l, l < g.n ∧ (g'.q l).own = (v : Int) ∧ (g'.q l).had = false ∧ (a (g.x l)).kd = 0 ∧ ky T' v = (a (g.x l)).key ∧ (T'.E v).ref = (a (g.x l)).ref := fun v hv => by
    have hv0 := (r1.mem 0 (by omega) v hv).1
    by_cases hvC : v ∈ g.C 0
    · obtain ⟨l, b1, b2, b3, b4, b5, b6⟩ := h.who v hvC
      refine ⟨l, b1, hownv l v b1 hv b2, ?_, b4, by rw [hky v hvC]; exact b5, by rw [(r2.same v (hmem v hvC)).2.2.1]; exact b6⟩
      by_cases el : l = k
      · subst el
        rw [nq]
        exact r7 v hv (by rw [hownk (by omega)]; exact b2.symm)
      · rw [(ho l el).1]; exact b3
    · rcases r2.new 0 (by omega) v hv with h9 | ⟨h9, h8⟩
      · exact absurd h9 hvC
      · have eo : q'.own = (v : Int) := by rw [hownk (by omega)]; exact h9.symm
        rcases hk4.own with f | ⟨m, j, f1, f2, f3, f4, f5, f6, f7, f8, _⟩
        · omega
        · have em : v = m + 1 := by omega
          refine ⟨k, hkn, by rw [nq]; exact eo, by rw [nq]; exact r7 v hv eo.symm, by rw [← x3]; exact f8, ?_, ?_⟩
          · rw [r2.ky h8, em]; exact f5.trans x2
          · rw [(r2.same v h8).2.2.1, em, f6]; exact hk3 (by rw [← x3]; exact f8)
  have inv : TgI a N (t + 1) g' := by
    refine ⟨r1, r2.size.trans h.size, by omega, ?_, ?_, h.asks, fun l hl => ?_, fun l hl he => ?_, fun l hl he => ?_, fun v hv l hv2 => ?_, fun l m hl hm hlm => ?_, fun l hl => ?_, h.inj, h.pos, h.past, hwho, fun l hl he h1 => ?_, fun l m hl hm hh he => ?_, fun l hl h1 => ?_⟩
    · have s := sumL_one (f := fun l => useQ (g.q l)) (h := fun l => useQ (g'.q l)) hkn fun j _ hj => by rw [(ho j hj).1]
      rw [nq] at s
      have := h.used
      show T'.used = 8 + sumL (fun l => useQ (g'.q l)) g.n
      omega
    · have s := sumL_one (f := fun l => own01 (g.q l)) (h := fun l => own01 (g'.q l)) hkn fun j _ hj => by rw [(ho j hj).1]
      rw [nq] at s
      have := h.nN
      show T'.nN = 1 + sumL (fun l => own01 (g'.q l)) g.n
      omega
    · by_cases el : l = k
      · subst el
        rw [nq, nen]
        refine ⟨x1, r3a.trans x2, r3b.trans x3, fun h => r3c.trans (x4 h), x5, ?_, ?_, fun h9 => ?_, by rw [r3c]; exact x9⟩
        · show g.bg l < t + 1; omega
        · rcases hcase with ⟨_, c, _⟩ | ⟨_, c, _⟩ <;> omega
        · show g.bg l < e
          rcases hcase with ⟨_, c, _⟩ | ⟨_, c, _⟩ <;> omega
      · rw [(ho l el).1, (ho l el).2]
        obtain ⟨b1, b2, b3, b4, b5, b6, b7, b8, b9⟩ := h.key l hl
        exact ⟨b1, b2, b3, b4, b5, by show g.bg l < t + 1; omega, by omega, b8, b9⟩
    · by_cases el : l = k
      · subst el
        rw [nen] at he ⊢
        rw [nq]
        rcases hcase with ⟨c0, c1, c2, c3, c4⟩ | ⟨_, c1, _⟩
        · refine ⟨c1, ?_, fun h9 => c4.trans (hk3 h9), c3⟩
          show g'.now (wkN (a (g.x l)).wk) = some l
          rw [hkw, nnow]; exact c2
        · omega
      · rw [(ho l el).2] at he ⊢
        rw [(ho l el).1]
        obtain ⟨b1, b2, b3, b4⟩ := h.go l hl he
        refine ⟨b1, ?_, b3, b4.rest h.skp r2 (h.apart l k hl hkn el)⟩
        show g'.now (wkN (a (g.x l)).wk) = some l
        rw [onow _ fun e8 => by rw [e8, hnow] at b2; exact el (by simpa using b2.symm)]
        exact b2
    · by_cases el : l = k
      · subst el
        rw [nen] at he
        rw [nq]
        rcases hcase with ⟨_, c1, _⟩ | ⟨_, _, _, c4⟩
        · omega
        · refine ⟨c4.ref fun h9 => hk3 ?_, fun u hu => hin u (hk4.made u hu)⟩
          rw [← x3, ← r3b]; exact h9
      · rw [(ho l el).2] at he
        rw [(ho l el).1]
        obtain ⟨b1, b2⟩ := h.done l hl he
        exact ⟨b1.rest h.skp r2 b2, fun u hu => hin u (b2 u hu)⟩
    · by_cases e8 : v = w
      · subst e8
        rw [nnow] at hv2
        rcases hcase with ⟨_, c1, c2, _⟩ | ⟨_, _, c2, _⟩
        · rw [c2] at hv2
          obtain rfl : k = l := by simpa using hv2
          rw [nen]
          exact ⟨hkn, hkw, by omega⟩
        · rw [c2] at hv2; cases hv2
      · rw [onow v e8] at hv2
        obtain ⟨b1, b2, b3⟩ := h.now v hv l hv2
        refine ⟨b1, b2, ?_⟩
        rw [(ho l (lk v hv e8 l hv2)).2]; exact b3
    · by_cases el : l = k
      · subst el
        rw [nq, (ho m fun e => hlm e.symm).1]
        rcases r4 with r4 | ⟨_, r4⟩
        · rw [r4]; exact h.apart l m hl hm hlm
        · right
          have := (h.owns m hm).2
          omega
      · rw [(ho l el).1]
        by_cases em : m = k
        · subst em
          rw [nq]
          rcases r4 with r4 | ⟨_, r4⟩
          · rw [r4]; exact h.apart l m hl hm hlm
          · right
            have := (h.owns l hl).2
            omega
        · rw [(ho m em).1]
          exact h.apart l m hl hm hlm
    · have hn := r2.nN
      by_cases el : l = k
      · subst el
        rw [nq]
        show 0 ≤ q'.own ∧ q'.own < (T'.nN : Int)
        rcases r4 with r4 | ⟨r4a, r4⟩
        · have := h.owns l hl; omega
        · unfold own01 at r5
          rw [if_pos r4a, if_neg (by have := h.skp.one; omega)] at r5
          omega
      · rw [(ho l el).1]
        have := h.owns l hl
        show 0 ≤ (g.q l).own ∧ (g.q l).own < (T'.nN : Int)
        omega
    · by_cases el : l = k
      · subst el
        rw [nen] at he
        rw [nq] at h1
        rw [nq, nen]
        rcases hcase with ⟨_, c1, _⟩ | ⟨_, c1, _, c4⟩
        · omega
        · have fin : ∀ v ∈ C' 0, ky T' v = q'.found → ∃ m v, m < g.n ∧ v ∈ C' 0 ∧ (g'.q m).own = (v : Int) ∧ ky T' v = q'.found ∧ g.bg m ≤ e := fun v hv hf => by
            obtain ⟨m, b1, b2, _⟩ := hwho v hv
            refine ⟨m, v, b1, hv, b2, hf, ?_⟩
            have := (h.key m b1).2.2.2.2.2.1
            omega
          obtain ⟨_, ⟨_, _, _, b, _⟩ | ⟨_, _, ⟨_, _, v, b3, b4, _⟩ | ⟨_, b2, _⟩ | ⟨_, _, b3, v, b4, b5, _⟩ | ⟨_, b2, _⟩ | ⟨_, b2, _⟩⟩⟩ := c4
          · rw [b] at h1; cases h1
          · exact fin v b3 b4.symm
          · rw [b2] at h1; cases h1
          · exact fin v b4 (b5.trans b3.symm)
          · rw [b2] at h1; cases h1
          · rw [b2] at h1; cases h1
      · rw [(ho l el).2] at he
        rw [(ho l el).1] at h1 ⊢
        rw [(ho l el).2]
        obtain ⟨m, v, b1, b2, b3, b4, b5⟩ := h.met l hl he h1
        exact ⟨m, v, b1, hin v b2, hownv m v b1 (hin v b2) b3, by rw [show ky g'.T v = ky T' v from rfl, hky v b2]; exact b4, b5⟩
    · show ∃ u ∈ g.D m, ky T' u = (g'.q l).found
      have hD : ∀ u ∈ g.D m, u ∈ g.C 0 := by
        rcases Int.lt_or_le (g.en m) 0 with h9 | h9
        · exact (h.go m hm h9).2.2.2.made
        · exact (h.done m hm h9).2
      by_cases el : l = k
      · subst el
        have h1 := hh.1
        rw [nen] at he h1
        have he' : e < g.bg m := he
        have := (h.key m hm).2.2.2.2.2.1
        rcases hcase with ⟨_, c1, _⟩ | ⟨_, c1, _⟩ <;> omega
      · have hh' : g.here l := by
          unfold Tg.here at hh ⊢
          rw [(ho l el).1, (ho l el).2] at hh
          exact hh
        rw [(ho l el).2] at he
        rw [(ho l el).1]
        obtain ⟨u, b1, b2⟩ := h.seen l m hl hm hh' he
        exact ⟨u, b1, by rw [hky u (hD u b1)]; exact b2⟩
    · by_cases el : l = k
      · subst el
        rw [nq] at h1 ⊢
        exact hno (by rw [← r3b]; exact h1)
      · rw [(ho l el).1] at h1 ⊢
        exact h.noown l hl h1
  have hcw : g.costW N w = cost N g.T g.C (g.q k) := by unfold Tg.costW; rw [hnow]
  have hcp := cost_pos (N := N) hk4
  have hcw' : (d = false → g'.costW N w = cost N T' C' q') ∧ (d = true → g'.costW N w = 0) := by
    unfold Tg.costW
    rw [nnow]
    rcases hcase with ⟨c0, _, c2, _⟩ | ⟨c0, _, c2, _⟩
    · rw [c2]
      refine ⟨fun _ => ?_, fun h => (by rw [c0] at h; cases h)⟩
      show cost N T' C' (g'.q k) = _
      rw [nq]
    · rw [c2]
      exact ⟨fun h => (by rw [c0] at h; cases h), fun _ => rfl⟩
  have hoth : ∀ v, v < 4 → v ≠ w → (g.costW N v = 0 ∧ g'.costW N v = 0) ∨ ∃ l, OpI g.T g.C (g.q l) (g.D l) ∧ g.costW N v = cost N g.T g.C (g.q l) ∧ g'.costW N v = cost N T' C' (g.q l) := fun v hv hvw => by
    unfold Tg.costW
    rw [onow v hvw]
    cases hn : g.now v with
    | none => exact .inl ⟨rfl, rfl⟩
    | some l =>
      obtain ⟨b1, _, b3⟩ := h.now v hv l hn
      refine .inr ⟨l, (h.go l b1 b3).2.2.2, rfl, ?_⟩
      show cost N T' C' (g'.q l) = _
      rw [(ho l (lk v hv hvw l hn)).1]
  refine ⟨g', inv, rfl, by rw [hr], by rw [hr], rfl, rfl, rfl, ?_, ?_⟩
  · rw [hr]
    show (d = false ∧ updA g.en k e = g.en ∧ updA g.now w z = g.now) ∨ (d = true ∧ updA g.en k e = updA g.en k t ∧ updA g.now w z = updA g.now w none)
    rcases hcase with ⟨c0, c1, c2, _⟩ | ⟨c0, c1, c2, _⟩
    · exact .inl ⟨c0, by rw [c1, ← hk1]; exact updA_id _ _, by rw [c2, ← hnow]; exact updA_id _ _⟩
    · exact .inr ⟨c0, by rw [c1], by rw [c2]⟩
  · have hd : d = false ∨ d = true := by cases d <;> simp
    rcases r9 with ⟨eC, c2, c3⟩ | ⟨⟨l, hl, c1, c2⟩, c3⟩
    · have own : lam a N g' w < lam a N g w := by
        have : g'.costW N w < g.costW N w := by
          rw [hcw]
          rcases hd with hd | hd
          · rw [hcw'.1 hd, eC]; exact c3 hd
          · rw [hcw'.2 hd]; exact hcp
        unfold lam
        show unb a N w (g.pos w) * (N + 25) + room C' N * (N + 11) + _ < _
        rw [eC]
        omega
      refine ⟨fun v hv => ?_, own⟩
      by_cases e : v = w
      · subst e; exact Nat.le_of_lt own
      · have : g'.costW N v ≤ g.costW N v := by
          rcases hoth v hv e with ⟨f1, f2⟩ | ⟨l, f1, f2, f3⟩
          · omega
          · rw [f2, f3, eC]
            rw [eC] at r2
            exact cost_same h.skp r2 f1 c2
        unfold lam
        show unb a N v (g.pos v) * (N + 25) + room C' N * (N + 11) + _ ≤ _
        rw [eC]
        omega
    · have hroom := room_ins (N := N) hl c1 c2 (inv.len hl)
      have own : lam a N g' w < lam a N g w := by
        have : g'.costW N w ≤ g.costW N w + (N + 10) := by
          rw [hcw]
          rcases hd with hd | hd
          · rw [hcw'.1 hd]
            have := c3 hd
            unfold cost
            split <;> split <;> omega
          · rw [hcw'.2 hd]; omega
        unfold lam
        show unb a N w (g.pos w) * (N + 25) + room C' N * (N + 11) + _ < _
        rw [← hroom, Nat.add_mul]
        omega
      refine ⟨fun v hv => ?_, own⟩
      by_cases e : v = w
      · subst e; exact Nat.le_of_lt own
      · have : g'.costW N v ≤ g.costW N v + (N + 10) := by
          rcases hoth v hv e with ⟨f1, f2⟩ | ⟨l, f1, f2, f3⟩
          · omega
          · rw [f2, f3]
            exact cost_any h.skp r2 f1
        unfold lam
        show unb a N v (g.pos v) * (N + 25) + room C' N * (N + 11) + _ ≤ _
        rw [← hroom, Nat.add_mul]
        omega
end Go.Proofs.YtpckpgdkfimapaaDoor
