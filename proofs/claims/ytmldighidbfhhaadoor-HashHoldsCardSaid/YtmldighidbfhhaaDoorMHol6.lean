/- The plain law of a step. Nothing is claimed of a program here.
A table and many operations in memory. Plain lemmas, and the walk of a step of one of them.
The walk of the statements' own begun.
Operations of four workers: what is kept of them, told plainly. Nothing is claimed of a program here.
Asks of the law that came in, opened. Nothing is claimed of a program's calls here.
Slices of numbers that came in: nil or not. Nothing is claimed of a program's calls here.
What is kept of operations of four workers over one table, told plainly. Nothing is claimed of a program here.
An operation is begun: what is kept. Nothing is claimed of a program here. -/
import Derived.Test.YtmldighidbfhhaaDoorMHol5
import Derived.Test.YtmldighidbfhhaaDoorMHol2
namespace Go.Proofs.YtmldighidbfhhaaDoor
open Go Go.RowKit
set_option linter.unusedVariables false

variable {T T' : AHt} {C C' : Nat → List Nat} {q q' : AHop} {S s D : List Nat}

def ow (n : Int) : Nat := if n = 0 then 0 else 1
/-- What an operation owns. -/
def Owns (T : AHt) (C : Nat → List Nat) (q : AHop) : Prop := q.own = 0 ∨ ∃ i : Nat, q.own = (i : Int) + 1 ∧ i < T.nE ∧ (T.E i).gone = false ∧ (T.E i).key = q.key ∧ (T.E i).ref = q.ref ∧ q.puts = true ∧ ∀ j, j < T.nB → i + 1 ∉ C j

theorem rest_add (T : AHt) (key : ByteArray) (ref own : Int) : Rest T (T.add key ref) own := by
  have e : ∀ v, 1 ≤ v → v ≤ T.nE → (T.add key ref).E (v - 1) = T.E (v - 1) := fun v h1 h2 => by
    show (if v - 1 = T.nE then _ else T.E (v - 1)) = _
    rw [if_neg (by omega)]
  exact ⟨rfl, rfl, rfl, ⟨Nat.le_succ _, Nat.le_refl _⟩, fun v h1 h2 _ => e v h1 h2, fun v h1 h2 => by rw [e v h1 h2]; exact ⟨rfl, rfl⟩⟩
theorem rest_free (T : AHt) (i : Nat) : Rest T (T.free i) ((i : Int) + 1) := by
  refine ⟨rfl, rfl, rfl, ⟨Nat.le_refl _, Nat.le_succ _⟩, fun v h1 h2 h3 => ?_, fun v h1 h2 => ?_⟩
  · show (if v - 1 = i then _ else T.E (v - 1)) = _
    rw [if_neg (by omega)]
  · show ((if v - 1 = i then { T.E (v - 1) with gone := true } else T.E (v - 1)) : AEnt).key = _ ∧ ((if v - 1 = i then { T.E (v - 1) with gone := true } else T.E (v - 1)) : AEnt).ref = _
    split <;> exact ⟨rfl, rfl⟩

theorem own_not (ht : Tab T C) (ho : Owns T C q) : ∀ j, j < T.nB → ∀ v ∈ C j, (v : Int) ≠ q.own := fun j hj v hv e => by
  have h1 := ((ht.link j hj).mem v hv).1
  rcases ho with h | ⟨i, a1, _, _, _, _, _, a7⟩
  · omega
  · have : v = i + 1 := by omega
    subst this
    exact a7 j hj hv

/-- What a look comes to, told of the chains. -/
theorem look_law (ht : Tab T C) (hB : 0 < T.nB) (hk : keyB q.key = true) (ho : Owns T C q) (hD0 : D <:+ C (T.bk q.key)) (hS : S <:+ C (T.bk q.key)) (hD : D <:+ S) (hh : q.head = hdl S) (hsm : 0 ≤ q.head ∧ q.head ≤ T.nE)
    (s1 : List Nat) (he : S = s1 ++ s) (hc : q.cur = hdl s) (hu : ∀ u ∈ s1, ky T u ≠ q.key) :
    Tab (lookS T q).1 C ∧ Rest T (lookS T q).1 q.own ∧ (lookS T q).2.1.key = q.key ∧ (lookS T q).2.1.puts = q.puts ∧
      ((lookS T q).2.2 = false ∧ (lookS T q).2.1.ref = q.ref ∧ (lookS T q).1.used + ow q.own = T.used + ow (lookS T q).2.1.own ∧ ((lookS T q).2.1.own = q.own ∨ (lookS T q).2.1.own = (T.nE : Int) + 1) ∧
          (∃ s', OpI (lookS T q).1 C (lookS T q).2.1 S s' D ∧ (((lookS T q).2.1.next = 1 ∧ s'.length < s.length) ∨ (lookS T q).2.1.next = 2)) ∨
        (lookS T q).2.2 = true ∧ (lookS T q).1.used + ow q.own = T.used ∧ ((lookS T q).2.1.had = true ∨ q.puts = false) ∧ Said (lookS T q).1 C (lookS T q).2.1 q.puts q.ref D) := by
  have hkb := (bk_eq T q.key hB).2
  have hon := own_not ht ho
  unfold lookS
  cases s with
  | nil =>
    rw [if_pos (by rw [hc]; rfl)]
    rw [List.append_nil] at he
    subst he
    by_cases hp : q.puts = true
    · rw [if_pos hp]
      by_cases hw : q.own = 0
      · rw [if_pos hw]
        have hr := rest_add T q.key q.ref q.own
        refine ⟨ht.rest hr (fun _ _ => rfl) hon, hr, rfl, rfl, .inl ⟨rfl, rfl, ?_, .inr rfl, [], ?_, .inr rfl⟩⟩
        · rw [AHt.used_add, hw]
          unfold ow
          rw [if_pos rfl, if_neg (by show ¬ ((T.nE : Int) + 1 = 0); omega)]
        · have eN : (T.add q.key q.ref).E T.nE = ⟨q.key, q.ref, 0, false⟩ := by show (if T.nE = T.nE then _ else _) = _; rw [if_pos rfl]
          have hky : ∀ u ∈ S, ky (T.add q.key q.ref) u = ky T u := fun u hu9 => (hr.kr u ((ht.link _ hkb).mem u (hS.subset hu9)).1 ((ht.link _ hkb).mem u (hS.subset hu9)).2.1).1
          refine ⟨.inr (.inr (.inl rfl)), .inr ⟨T.nE, rfl, Nat.lt_succ_self _, by rw [eN], by rw [eN], by rw [eN], hp, fun j hj hm => ?_⟩, hD0, fun _ => ⟨hk, hS, hD, hh⟩, fun h1 => ?_, fun _ => ⟨by show (T.nE : Int) + 1 ≠ 0; omega, fun u hu9 => by rw [hky u hu9]; exact hu u hu9⟩, fun h3 => ?_, ⟨hsm.1, by show q.head ≤ ((T.nE + 1 : Nat) : Int); have := hsm.2; omega⟩, fun _ => hk⟩
          · have := ((ht.link j hj).mem _ hm).2.1; omega
          · have : (2 : Int) = 1 := h1; omega
          · have : (2 : Int) = 3 := h3; omega
      · rw [if_neg hw]
        refine ⟨ht, Rest.same T _, rfl, rfl, .inl ⟨rfl, rfl, rfl, .inl rfl, [], ⟨.inr (.inr (.inl rfl)), ho, hD0, fun _ => ⟨hk, hS, hD, hh⟩, fun h1 => ?_, fun _ => ⟨hw, hu⟩, fun h3 => ?_, hsm, fun _ => hk⟩, .inr rfl⟩⟩
        · have : (2 : Int) = 1 := h1; omega
        · have : (2 : Int) = 3 := h3; omega
    · rw [if_neg hp]
      have hw : q.own = 0 := by
        rcases ho with h | ⟨i, _, _, _, _, _, h, _⟩
        · exact h
        · exact absurd h hp
      refine ⟨ht, Rest.same T _, rfl, rfl, .inr ⟨rfl, by rw [hw]; rfl, .inr (by simpa using hp), rfl, .inr ⟨hk, rfl, .inr (.inl ⟨rfl, by simpa using hp, rfl, fun u hu9 => hu u (hD.subset hu9)⟩)⟩⟩⟩
  | cons c s2 =>
    have hcm : c ∈ C (T.bk q.key) := hS.subset (by rw [he]; simp)
    obtain ⟨m1, m2, m3⟩ := (ht.link _ hkb).mem c hcm
    have hc' : q.cur = (c : Int) := hc
    rw [if_neg (by omega)]
    have ei : ix q.cur = c - 1 := by rw [hc']; unfold ix; omega
    rw [ei]
    by_cases hk2 : (T.E (c - 1)).key = q.key
    · rw [if_pos hk2]
      rcases ho with hw | ⟨i, a1, a2, a3, a4, a5, a6, a7⟩
      · have e : (if q.own = 0 then T else T.free (ix q.own)) = T := by rw [if_pos hw]
        simp only [e]
        exact ⟨ht, Rest.same T _, rfl, rfl, .inr ⟨trivial, by rw [hw]; rfl, .inl rfl, rfl, .inr ⟨hk, rfl, .inl ⟨rfl, c, hcm, hk2, rfl⟩⟩⟩⟩
      · have e : (if q.own = 0 then T else T.free (ix q.own)) = T.free i := by rw [if_neg (by omega), a1, ix_succ]
        simp only [e]
        have hr : Rest T (T.free i) q.own := by rw [a1]; exact rest_free T i
        refine ⟨ht.rest hr (fun _ _ => rfl) hon, hr, rfl, rfl, .inr ⟨trivial, ?_, .inl rfl, rfl, .inr ⟨hk, rfl, .inl ⟨rfl, c, hcm, ?_, ?_⟩⟩⟩⟩
        · rw [T.used_free i a2 a3]
          unfold ow
          rw [if_neg (by omega)]
        · exact (hr.kr c m1 m2).1.trans hk2
        · exact (hr.kr c m1 m2).2
    · rw [if_neg hk2]
      refine ⟨ht, Rest.same T _, rfl, rfl, .inl ⟨rfl, rfl, rfl, .inl rfl, s2, ⟨.inr (.inl rfl), ho, hD0, fun _ => ⟨hk, hS, hD, hh⟩, fun _ => ⟨s1, c, he, hc', fun u hu9 => ?_⟩, fun h2 => ?_, fun h3 => ?_, hsm, fun _ => hk⟩, .inl ⟨rfl, by simp⟩⟩⟩
      · rcases List.mem_append.1 hu9 with h | h
        · exact hu u h
        · obtain rfl : u = c := by simpa using h
          exact hk2
      · have h2' : (1 : Int) = 2 ∨ (1 : Int) = 3 := h2; omega
      · have : (1 : Int) = 3 := h3; omega

/-- How far an operation is from its end. -/
def left (n : Nat) (q : AHop) (s : List Nat) : Nat := if q.next = 0 then n + 3 else if q.next = 1 then s.length + 3 else if q.next = 2 then 2 else 1
def stale (T : AHt) (C : Nat → List Nat) (q : AHop) (S : List Nat) : Nat := if q.next = 0 then 0 else if S = C (T.bk q.key) then 0 else 1
def cost (n : Nat) (T : AHt) (C : Nat → List Nat) (q : AHop) (S s : List Nat) : Nat := stale T C q S * (n + 4) + left n q s
theorem cost_zero {n : Nat} (h : q.next = 0) : cost n T C q S s = n + 3 := by
  unfold cost stale left; rw [if_pos h, if_pos h]; omega
theorem cost_one {n : Nat} (h : q.next = 1) : cost n T C q S s = (if S = C (T.bk q.key) then 0 else 1) * (n + 4) + (s.length + 3) := by
  unfold cost stale left; rw [if_neg (show ¬ q.next = 0 by omega), if_neg (show ¬ q.next = 0 by omega), if_pos h]
theorem cost_two {n : Nat} (h : q.next = 2) : cost n T C q S s = (if S = C (T.bk q.key) then 0 else 1) * (n + 4) + 2 := by
  unfold cost stale left; rw [if_neg (show ¬ q.next = 0 by omega), if_neg (show ¬ q.next = 0 by omega), if_neg (show ¬ q.next = 1 by omega), if_pos h]
theorem cost_three {n : Nat} (h : q.next = 3) : cost n T C q S s = (if S = C (T.bk q.key) then 0 else 1) * (n + 4) + 1 := by
  unfold cost stale left; rw [if_neg (show ¬ q.next = 0 by omega), if_neg (show ¬ q.next = 0 by omega), if_neg (show ¬ q.next = 1 by omega), if_neg (show ¬ q.next = 2 by omega)]
def putC (C : Nat → List Nat) (j v : Nat) : Nat → List Nat := fun k => if k = j then v :: C k else C k

theorem Rest.ofStep {own : Int} (h : Rest T.step T' own) : Rest T T' own := ⟨h.nB, h.ab, h.size, h.nE, h.old, h.kr⟩

/-- A step leaves the chains; it goes on, or is over. -/
def Kpt (n : Nat) (T : AHt) (C : Nat → List Nat) (q : AHop) (S s D : List Nat) (R : AHt × AHop × Bool) : Prop :=
  Tab R.1 C ∧ Rest T R.1 q.own ∧ R.2.1.key = q.key ∧ R.2.1.puts = q.puts ∧
    ((R.2.2 = false ∧ R.2.1.ref = q.ref ∧ R.1.used + ow q.own = T.used + ow R.2.1.own ∧ (R.2.1.own = q.own ∨ R.2.1.own = (T.nE : Int) + 1) ∧ ∃ S' s', OpI R.1 C R.2.1 S' s' D ∧ cost n R.1 C R.2.1 S' s' < cost n T C q S s) ∨
      (R.2.2 = true ∧ R.1.used + ow q.own = T.used ∧ (R.2.1.had = true ∨ q.puts = false ∨ keyB q.key = false) ∧ Said R.1 C R.2.1 q.puts q.ref D))
/-- A step puts the operation's entry in. -/
def Put (T : AHt) (C : Nat → List Nat) (q : AHop) (D : List Nat) (R : AHt × AHop × Bool) : Prop :=
  R.2.2 = true ∧ R.2.1.had = false ∧ q.puts = true ∧ R.2.1.key = q.key ∧ R.2.1.puts = q.puts ∧ Rest T R.1 q.own ∧ R.1.used = T.used ∧ (∀ u ∈ C (T.bk q.key), ky T u ≠ q.key) ∧
    ∃ i : Nat, q.own = (i : Int) + 1 ∧ Tab R.1 (putC C (T.bk q.key) (i + 1)) ∧ Said R.1 (putC C (T.bk q.key) (i + 1)) R.2.1 q.puts q.ref D

theorem kpt_look (n : Nat) (ht : Tab T C) (hB : 0 < T.nB) (hn : ∀ j, j < T.nB → (C j).length ≤ n) (q2 : AHop) (hq : q2.key = q.key ∧ q2.puts = q.puts ∧ q2.ref = q.ref ∧ q2.own = q.own) (S' s' : List Nat)
    (hk : keyB q.key = true) (ho : Owns T C q) (hD0 : D <:+ C (T.bk q.key)) (hS : S' <:+ C (T.bk q.key)) (hD : D <:+ S') (hh : q2.head = hdl S') (hsm : 0 ≤ q2.head ∧ q2.head ≤ T.nE)
    (s1 : List Nat) (he : S' = s1 ++ s') (hc : q2.cur = hdl s') (hu : ∀ u ∈ s1, ky T u ≠ q.key)
    (hcost : ∀ m, (m < s'.length + 3 ∨ m = 2) → (if S' = C (T.bk q.key) then 0 else 1) * (n + 4) + m < cost n T C q S s) : Kpt n T C q S s D (lookS T.step q2) := by
  have ht' : Tab T.step C := ht.rest (Rest.step T q.own) (fun _ _ => rfl) (own_not ht ho)
  obtain ⟨e1, e2, e3, e4⟩ := hq
  have hku : ∀ u, ky T.step u = ky T u := fun _ => rfl
  have ho2 : Owns T.step C q2 := by unfold Owns; rw [e1, e2, e3, e4]; exact ho
  have hbk : T.step.bk q2.key = T.bk q.key := by rw [e1]; rfl
  obtain ⟨a1, a2, a3, a4, a5⟩ := look_law (q := q2) (D := D) (S := S') (s := s') ht' hB (by rw [e1]; exact hk) ho2 (by rw [hbk]; exact hD0) (by rw [hbk]; exact hS) hD hh hsm s1 he hc (fun u hu9 => by rw [e1]; exact hu u hu9)
  rw [e4] at a2
  rw [e1] at a3
  rw [e2] at a4
  refine ⟨a1, a2.ofStep, a3, a4, ?_⟩
  rcases a5 with ⟨b1, b2, b3, b4, s9, b5, b6⟩ | ⟨b1, b2, b4, b3⟩
  · left
    rw [e4] at b3 b4
    refine ⟨b1, by rw [b2, e3], b3, b4, S', s9, b5, ?_⟩
    have hbk2 : (lookS T.step q2).1.bk (lookS T.step q2).2.1.key = T.bk q.key := by rw [a3]; exact a2.bk q.key
    rcases b6 with ⟨c1, c2⟩ | c1
    · rw [cost_one c1, hbk2]
      exact hcost _ (.inl (by omega))
    · rw [cost_two c1, hbk2]
      exact hcost _ (.inr rfl)
  · right
    rw [e4] at b2
    rw [e2, e3] at b3
    rw [e2] at b4
    exact ⟨b1, b2, b4.imp_right .inl, b3⟩

theorem rest_set (T : AHt) (i : Nat) (v : Int) : Rest T (T.step.set (.next i) v) ((i : Int) + 1) := by
  refine ⟨rfl, rfl, rfl, ⟨Nat.le_refl _, Nat.le_succ _⟩, fun u h1 h2 h3 => ?_, fun u h1 h2 => ?_⟩
  · show (if u - 1 = i then _ else T.E (u - 1)) = _
    rw [if_neg (by omega)]
  · show ((if u - 1 = i then { T.E (u - 1) with nxt := v } else T.E (u - 1)) : AEnt).key = _ ∧ ((if u - 1 = i then { T.E (u - 1) with nxt := v } else T.E (u - 1)) : AEnt).ref = _
    split <;> exact ⟨rfl, rfl⟩

/-- The law of a step. -/
theorem step_law (n : Nat) (ht : Tab T C) (hB : 0 < T.nB) (hn : ∀ j, j < T.nB → (C j).length ≤ n) (h : OpI T C q S s D) : Kpt n T C q S s D (hstep T q) ∨ Put T C q D (hstep T q) := by
  have hkb := (bk_eq T q.key hB).2
  have h4 : ¬ q.next = 4 := by rcases h.next with h | h | h | h <;> omega
  by_cases hk : keyB q.key = false
  · left
    have h0 : q.next = 0 := by
      rcases Decidable.em (q.next = 0) with h0 | h0
      · exact h0
      · have := (h.key h0).1; rw [hk] at this; cases this
    have hw : q.own = 0 := by
      rcases Decidable.em (q.own = 0) with h0 | h0
      · exact h0
      · have := h.okey h0; rw [hk] at this; cases this
    have e : hstep T q = (T, q.ends 0 false 90, true) := by unfold hstep; rw [if_neg h4, if_pos hk]
    rw [e]
    exact ⟨ht, Rest.same T _, rfl, rfl, .inr ⟨rfl, by rw [hw]; rfl, .inr (.inr hk), rfl, .inl ⟨hk, rfl, rfl, rfl⟩⟩⟩
  have hk' : keyB q.key = true := by simpa using hk
  by_cases h0 : q.next = 0
  · left
    have e : hstep T q = lookS T.step { q with head := T.H (T.bk q.key), cur := T.H (T.bk q.key) } := by unfold hstep; rw [if_neg h4, if_neg hk, if_pos h0]
    rw [e]
    have hhd := ht.head _ hkb
    have hl := hn _ hkb
    have hrange : 0 ≤ T.H (T.bk q.key) ∧ T.H (T.bk q.key) ≤ T.nE := by
      rw [hhd]
      refine ⟨hdl_nonneg _, ?_⟩
      cases hc : C (T.bk q.key) with
      | nil => show (0 : Int) ≤ _; omega
      | cons v l =>
        have := ((ht.link _ hkb).mem v (by rw [hc]; simp)).2.1
        show (v : Int) ≤ _; omega
    refine kpt_look n ht hB hn _ ⟨rfl, rfl, rfl, rfl⟩ (C (T.bk q.key)) (C (T.bk q.key)) hk' h.own h.made (List.suffix_refl _) h.made hhd hrange [] rfl hhd (by simp) fun m hm => ?_
    rw [cost_zero h0, if_pos rfl]
    omega
  by_cases h1 : q.next = 1
  · left
    obtain ⟨s1, c, e1, hc, hu⟩ := h.one h1
    obtain ⟨_, hS, hD, hh⟩ := h.key h0
    have ei : ix q.cur = c - 1 := by rw [hc]; unfold ix; omega
    have e : hstep T q = lookS T.step { q with cur := (T.E (c - 1)).nxt } := by unfold hstep; rw [if_neg h4, if_neg hk, if_neg h0, if_pos h1, ei]
    rw [e]
    have hcs : Chn T (c :: s) := by
      obtain ⟨pre, hp⟩ := hS
      have hl := ht.link _ hkb
      rw [← hp, e1] at hl
      exact Chn.tail s1 (Chn.tail pre hl)
    refine kpt_look n ht hB hn _ ⟨rfl, rfl, rfl, rfl⟩ S s hk' h.own h.made hS hD hh h.small (s1 ++ [c]) (by rw [e1, List.append_assoc]; rfl) hcs.2.2.2.1 hu fun m hm => ?_
    rw [cost_one h1]
    omega
  obtain ⟨hw, hu⟩ := h.two (by rcases h.next with h | h | h | h <;> first | exact absurd h h0 | exact absurd h h1 | exact .inl h | exact .inr h)
  obtain ⟨_, hS, hD, hh⟩ := h.key h0
  obtain hw0 | ⟨i, a1, a2, a3, a4, a5, a6, a7⟩ := h.own
  · exact absurd hw0 hw
  have ei : ix q.own = i := by rw [a1, ix_succ]
  have hon := own_not ht h.own
  by_cases h2 : q.next = 2
  · left
    have e : hstep T q = (T.step.set (.next i) q.head, { q with next := 3 }, false) := by unfold hstep; rw [if_neg h4, if_neg hk, if_neg h0, if_neg h1, if_pos h2, ei]
    rw [e]
    have hr : Rest T (T.step.set (.next i) q.head) q.own := by rw [a1]; exact rest_set T i _
    have eE : (T.step.set (.next i) q.head).E i = { T.E i with nxt := q.head } := by show (if i = i then _ else _) = _; rw [if_pos rfl]; rfl
    have hku : ∀ u ∈ S, ky (T.step.set (.next i) q.head) u = ky T u := fun u hu9 => (hr.kr u ((ht.link _ hkb).mem u (hS.subset hu9)).1 ((ht.link _ hkb).mem u (hS.subset hu9)).2.1).1
    refine ⟨ht.rest hr (fun _ _ => rfl) hon, hr, rfl, rfl, .inl ⟨rfl, rfl, ?_, .inl rfl, S, s, ⟨.inr (.inr (.inr rfl)), .inr ⟨i, a1, a2, by rw [eE]; exact a3, by rw [eE]; exact a4, by rw [eE]; exact a5, a6, a7⟩, h.made, fun _ => ⟨hk', hS, hD, hh⟩, fun h9 => ?_, fun _ => ⟨hw, fun u hu9 => by rw [hku u hu9]; exact hu u hu9⟩, fun _ => ?_, h.small, fun _ => hk'⟩, ?_⟩⟩
    · rw [AHt.used_set]; rfl
    · have : (3 : Int) = 1 := h9; omega
    · show ((T.step.set (.next i) q.head).E (ix q.own)).nxt = _
      rw [ei, eE]; exact hh
    · rw [cost_two h2, cost_three (q := { q with next := 3 }) rfl]
      have : (T.step.set (.next i) q.head).bk q.key = T.bk q.key := hr.bk _
      show (if S = C ((T.step.set (.next i) q.head).bk q.key) then 0 else 1) * (n + 4) + 1 < _
      rw [this]; omega
  have h3 : q.next = 3 := by rcases h.next with h | h | h | h <;> first | exact absurd h h0 | exact absurd h h1 | exact absurd h h2 | exact h
  have hnx := h.three h3
  rw [ei] at hnx
  by_cases hH : T.H (T.bk q.key) = q.head
  · right
    have e : hstep T q = (T.step.set (.head (T.bk q.key)) q.own, q.ends q.ref false 0, true) := by unfold hstep; rw [if_neg h4, if_neg hk, if_neg h0, if_neg h1, if_neg h2, if_pos hH]
    rw [e]
    have hSC : S = C (T.bk q.key) := suffix_same (ht.nodup hkb) (fun v hv => ((ht.link _ hkb).mem v hv).1) hS (by rw [← ht.head _ hkb, hH, hh])
    have hr : Rest T (T.step.set (.head (T.bk q.key)) q.own) q.own := ⟨rfl, rfl, rfl, ⟨Nat.le_refl _, Nat.le_succ _⟩, fun _ _ _ _ => rfl, fun _ _ _ => ⟨rfl, rfl⟩⟩
    have hE : ∀ v, (T.step.set (.head (T.bk q.key)) q.own).E v = T.E v := fun _ => rfl
    have hky : ∀ v, ky (T.step.set (.head (T.bk q.key)) q.own) v = ky T v := fun _ => rfl
    have hown : ky T (i + 1) = q.key := by unfold ky; rw [Nat.add_sub_cancel]; exact a4
    have hin : i + 1 ∈ putC C (T.bk q.key) (i + 1) (T.bk q.key) := by unfold putC; rw [if_pos rfl]; simp
    refine ⟨rfl, rfl, a6, rfl, rfl, hr, by rw [AHt.used_set]; rfl, by rw [← hSC]; exact hu, i, a1, ⟨fun j hj => ?_, fun j hj => ?_, fun j hj => ?_, fun j hj v hv => ?_⟩, rfl, .inr ⟨hk', rfl, .inr (.inr ⟨rfl, a6, rfl, ⟨i + 1, ?_, ?_, ?_⟩, fun u hu9 => ?_⟩)⟩⟩
    · show (if j = T.bk q.key then q.own else T.H j) = _
      unfold putC
      by_cases ej : j = T.bk q.key
      · rw [if_pos ej, if_pos ej, a1]; rfl
      · rw [if_neg ej, if_neg ej]; exact ht.head j hj
    · have hl : Chn (T.step.set (.head (T.bk q.key)) q.own) (C j) := (ht.link j hj).keep (Nat.le_refl _) fun _ _ => rfl
      unfold putC
      by_cases ej : j = T.bk q.key
      · rw [if_pos ej]
        refine ⟨by omega, a2, ?_, ?_, hl⟩
        · rw [Nat.add_sub_cancel]; exact a3
        · rw [Nat.add_sub_cancel, ej, ← hSC]; exact hnx
      · rw [if_neg ej]; exact hl
    · unfold putC
      by_cases ej : j = T.bk q.key
      · rw [if_pos ej]
        refine List.pairwise_cons.2 ⟨fun u hu9 => ?_, ht.keys j hj⟩
        rw [hky, hky, hown]
        rw [ej, ← hSC] at hu9
        exact fun e9 => hu u hu9 e9.symm
      · rw [if_neg ej]; exact ht.keys j hj
    · rw [hky]
      show T.bk (ky T v) = j ∧ _
      unfold putC at hv
      by_cases ej : j = T.bk q.key
      · rw [if_pos ej] at hv
        rcases List.mem_cons.1 hv with rfl | hv
        · rw [hown]; exact ⟨ej.symm, hk'⟩
        · exact ht.bkt j hj v hv
      · rw [if_neg ej] at hv; exact ht.bkt j hj v hv
    · exact hin
    · exact hown
    · show (T.E (i + 1 - 1)).ref = q.ref
      rw [Nat.add_sub_cancel]; exact a5
    · exact hu u (hD.subset hu9)
  · left
    have e : hstep T q = (T.step, { q with next := 0 }, false) := by unfold hstep; rw [if_neg h4, if_neg hk, if_neg h0, if_neg h1, if_neg h2, if_neg hH]
    rw [e]
    have hSC : ¬ S = C (T.bk q.key) := fun e9 => hH (by rw [ht.head _ hkb, ← e9, hh])
    refine ⟨ht.rest (Rest.step T q.own) (fun _ _ => rfl) hon, Rest.step T _, rfl, rfl, .inl ⟨rfl, rfl, rfl, .inl rfl, S, s, ⟨.inl rfl, h.own, h.made, fun h9 => absurd rfl h9, fun h9 => ?_, fun h9 => ?_, fun h9 => ?_, h.small, h.okey⟩, ?_⟩⟩
    · have : (0 : Int) = 1 := h9; omega
    · have : (0 : Int) = 2 ∨ (0 : Int) = 3 := h9; omega
    · have : (0 : Int) = 3 := h9; omega
    · rw [cost_three h3, cost_zero (q := { q with next := 0 }) rfl, if_neg hSC]
      omega
end Go.Proofs.YtmldighidbfhhaaDoor
namespace Go.Proofs.YtmldighidbfhhaaDoor
open Go Go.RowKit
set_option linter.unusedVariables false

variable {o : List Nat} {w0 w w' : World} {A B R : Part} {n : Nat} {f : Nat → Part}

/-- One of many, and the rest of them. -/
theorem Has.split (h : Has o w0 w (A.sep (.all n f))) {i : Nat} (hi : i < n) : Has o w0 w ((A.sep (f i)).sep (.all n (updP f i .emp))) := by
  obtain ⟨fp, ⟨fa, fg, hA, ⟨F, hF, hd, hm⟩, hda, rfl⟩, hn, k⟩ := h
  let F' : Nat → List Nat := fun j => if j = i then [] else F j
  have hcl : ∀ j, j ≠ i → updP f i .emp j = f j := fun j hj => by unfold updP; rw [if_neg hj]
  have hci : updP f i .emp i = .emp := by unfold updP; rw [if_pos rfl]
  obtain ⟨rest, hrest⟩ : ∃ rest : List Nat, ∀ x, x ∈ rest ↔ ∃ j, j < n ∧ x ∈ F' j := by
    refine ⟨(List.range n).flatMap F', fun x => ?_⟩
    simp only [List.mem_flatMap, List.mem_range]
  refine ⟨(fa ++ F i) ++ rest, ⟨fa ++ F i, rest, ⟨fa, F i, hA, hF i hi, fun x hx hx' => hda x hx ((hm x).2 ⟨i, hi, hx'⟩), rfl⟩, ⟨F', fun j hj => ?_, fun j l hj hl hjl x hx => ?_, hrest⟩, fun x hx hx' => ?_, rfl⟩, fun x hx => ?_, k⟩
  · by_cases e : j = i
    · subst e; rw [hci]; show F' j = []; simp [F']
    · rw [hcl j e]; show (f j).at_ w (if j = i then [] else F j); rw [if_neg e]; exact hF j hj
  · intro hx'
    by_cases e : j = i
    · simp [F', e] at hx
    · by_cases e2 : l = i
      · simp [F', e2] at hx'
      · simp only [F', if_neg e] at hx
        simp only [F', if_neg e2] at hx'
        exact hd j l hj hl hjl x hx hx'
  · obtain ⟨j, hj, hxj⟩ := (hrest x).1 hx'
    by_cases e : j = i
    · simp [F', e] at hxj
    · simp only [F', if_neg e] at hxj
      rcases List.mem_append.1 hx with h1 | h1
      · exact hda x h1 ((hm x).2 ⟨j, hj, hxj⟩)
      · exact hd i j hi hj (fun e' => e e'.symm) x h1 hxj
  · rcases List.mem_append.1 hx with h1 | h1
    · rcases List.mem_append.1 h1 with h2 | h2
      · exact hn x (by simp [h2])
      · exact hn x (List.mem_append_right _ ((hm x).2 ⟨i, hi, h2⟩))
    · obtain ⟨j, hj, hxj⟩ := (hrest x).1 h1
      by_cases e : j = i
      · simp [F', e] at hxj
      · simp only [F', if_neg e] at hxj
        exact hn x (List.mem_append_right _ ((hm x).2 ⟨j, hj, hxj⟩))
theorem Has.unsplit {i : Nat} (hi : i < n) (h : Has o w0 w ((A.sep B).sep (.all n (updP f i .emp)))) : Has o w0 w (A.sep (.all n (updP f i B))) := by
  obtain ⟨fp, ⟨fab, fr, ⟨fa, fb, hA, hB, hab, rfl⟩, ⟨F, hF, hd, hm⟩, hdr, rfl⟩, hn, k⟩ := h
  let F' : Nat → List Nat := fun j => if j = i then fb else F j
  have hFi : F i = [] := by have := hF i hi; unfold updP at this; rw [if_pos rfl] at this; exact this
  obtain ⟨rest, hrest⟩ : ∃ rest : List Nat, ∀ x, x ∈ rest ↔ ∃ j, j < n ∧ x ∈ F' j := by
    refine ⟨(List.range n).flatMap F', fun x => ?_⟩
    simp only [List.mem_flatMap, List.mem_range]
  have key : ∀ x, x ∈ rest → x ∈ fb ∨ x ∈ fr := fun x hx => by
    obtain ⟨j, hj, hxj⟩ := (hrest x).1 hx
    by_cases e : j = i
    · simp only [F', if_pos e] at hxj; exact .inl hxj
    · simp only [F', if_neg e] at hxj; exact .inr ((hm x).2 ⟨j, hj, hxj⟩)
  refine ⟨fa ++ rest, ⟨fa, rest, hA, ⟨F', fun j hj => ?_, fun j l hj hl hjl x hx => ?_, hrest⟩, fun x hx hx' => ?_, rfl⟩, fun x hx => ?_, k⟩
  · unfold updP
    by_cases e : j = i
    · rw [if_pos e]; show B.at_ w (if j = i then fb else F j); rw [if_pos e]; exact hB
    · rw [if_neg e]; show (f j).at_ w (if j = i then fb else F j); rw [if_neg e]; have := hF j hj; unfold updP at this; rw [if_neg e] at this; exact this
  · intro hx'
    by_cases e : j = i
    · by_cases e2 : l = i
      · exact hjl (e.trans e2.symm)
      · simp only [F', if_pos e] at hx
        simp only [F', if_neg e2] at hx'
        exact hdr x (by simp [hx]) ((hm x).2 ⟨l, hl, hx'⟩)
    · simp only [F', if_neg e] at hx
      by_cases e2 : l = i
      · simp only [F', if_pos e2] at hx'
        exact hdr x (by simp [hx']) ((hm x).2 ⟨j, hj, hx⟩)
      · simp only [F', if_neg e2] at hx'
        exact hd j l hj hl hjl x hx hx'
  · rcases key x hx' with h1 | h1
    · exact hab x hx h1
    · exact hdr x (by simp [hx]) h1
  · rcases List.mem_append.1 hx with h1 | h1
    · exact hn x (by simp [h1])
    · rcases key x h1 with h2 | h2
      · exact hn x (by simp [h2])
      · exact hn x (by simp [h2])

variable {b m : Nat} {T T' : AHt} {obs : Nat → Nat} {qs : Nat → AHop}

def updQ (qs : Nat → AHop) (i : Nat) (q : AHop) : Nat → AHop := fun j => if j = i then q else qs j
/-- A table and its operations. -/
noncomputable def Part.many (b : Nat) (T : AHt) (n : Nat) (obs : Nat → Nat) (qs : Nat → AHop) : Part := (Part.table b T).sep (.all n fun j => .hop (obs j) (some ⟨b, 0, none⟩) (qs j))

theorem op_open {ob : Nat} {q : AHop} (h : Has o w0 w ((Part.table b T).sep (.hop ob (some ⟨b, 0, none⟩) q))) : ∃ x : HtIx, HtRep x.S x.C T ∧ Has o w0 w (HtOp b x T ob q) := by
  obtain ⟨fp, ⟨f, g, ⟨x, hr, hP⟩, hQ, hd, rfl⟩, hn, k⟩ := h
  exact ⟨x, hr, f ++ g, ⟨f, g, hP, hQ, hd, rfl⟩, hn, k⟩
theorem op_shut {ob : Nat} {q : AHop} {x : HtIx} (hr : HtRep x.S x.C T) (h : Has o w0 w (HtOp b x T ob q)) : Has o w0 w ((Part.table b T).sep (.hop ob (some ⟨b, 0, none⟩) q)) := by
  obtain ⟨fp, ⟨f, g, hP, hQ, hd, rfl⟩, hn, k⟩ := h
  exact ⟨f ++ g, ⟨f, g, ⟨x, hr, hP⟩, hQ, hd, rfl⟩, hn, k⟩

/-- A table and one of its operations, out of all. -/
theorem many_one (h : Has o w0 w (.many b T n obs qs)) {i : Nat} (hi : i < n) : ∃ o' x, HtRep x.S x.C T ∧ Has o' w w (HtOp b x T (obs i) (qs i)) ∧ (∀ y ∈ o', y ∈ o ∨ w0.heap.size ≤ y) ∧
    ∀ w' x' T' q', HtRep x'.S x'.C T' → Has o' w w' (HtOp b x' T' (obs i) q') → Has o w0 w' (.many b T' n obs (updQ qs i q')) := by
  have h1 := Has.split h hi
  obtain ⟨o1, h2, p1, _, b1⟩ := h1.left
  obtain ⟨x, hr, h3⟩ := op_open h2
  refine ⟨o1, x, hr, h3, p1, fun w' x' T' q' hr' h' => ?_⟩
  have h5 := Has.unsplit hi (b1 _ _ (op_shut hr' h'))
  refine h5.weaken (Part.Imp.sep (Part.Imp.refl _) (Part.Imp.all fun j hj => ?_))
  unfold updP updQ
  by_cases e : j = i
  · rw [if_pos e, if_pos e, e]; exact Part.Imp.refl _
  · rw [if_neg e, if_neg e]; exact Part.Imp.refl _

/-- A step of one of them. -/
theorem many_step (h : Has o w0 w (.many b T n obs qs)) {i : Nat} (hi : i < n) (hT : TabAt w0) (ho : 0 ∉ o) (hB : 0 < T.nB) (hB9 : T.nB ≤ 256) (hn : T.nE ≤ 65536) (hfree : T.used < T.size) (hok : HOk T (qs i)) :
    Calls Tryd.prog 21 #[.pointer (some ⟨obs i, 0, none⟩)] w fun e w' => e = .returned (.bool (hstep T (qs i)).2.2) ∧ Has o w0 w' (.many b (hstep T (qs i)).1 n obs (updQ qs i (hstep T (qs i)).2.1)) := by
  obtain ⟨o', x, hr, h1, p1, bk⟩ := many_one h hi
  refine (step_all h1 hr (hT.kept h.keeps ho) (tab_out hT ho p1) hB hB9 hn hfree hok).mono ?_
  rintro e w' ⟨rfl, x', hr', h'⟩
  exact ⟨rfl, bk _ _ _ _ hr' h'⟩
/-- What one that is over says. -/
theorem many_ref (h : Has o w0 w (.many b T n obs qs)) {i : Nat} (hi : i < n) (h4 : (qs i).next = 4) :
    Calls Tryd.prog 13 #[.pointer (some ⟨obs i, 0, none⟩)] w fun e w' => e = .returned (.tuple #[.int .i64 (qs i).ref, .bool (qs i).had, .int .i64 (qs i).code]) ∧ Has o w0 w' (.many b T n obs qs) := by
  obtain ⟨o', x, hr, h1, p1, bk⟩ := many_one h hi
  obtain ⟨_, h2, _⟩ := ho_op h1
  refine (ref_over h2 h4).mono ?_
  rintro e w' ⟨rfl, hk⟩
  exact ⟨rfl, h.quiet hk⟩
/-- One more operation. -/
theorem many_more (h : Has o w0 w (.many b T n obs qs)) {ob : Nat} {q : AHop} (hq : Has [] w w' (.hop ob (some ⟨b, 0, none⟩) q)) : Has o w0 w' (.many b T (n + 1) (fun j => if j = n then ob else obs j) (updQ qs n q)) := by
  obtain ⟨o1, h1, _, _, b1⟩ := Has.right (A := .table b T) (B := .all n fun j => .hop (obs j) (some ⟨b, 0, none⟩) (qs j)) h
  refine b1 _ _ ?_
  have h2 : Has o1 w w (.all n fun j => .hop ((fun j => if j = n then ob else obs j) j) (some ⟨b, 0, none⟩) (updQ qs n q j)) := h1.weaken (Part.Imp.all fun j hj => by
    unfold updQ
    dsimp only
    rw [if_neg (by omega), if_neg (by omega)]; exact Part.Imp.refl _)
  refine h2.more ?_
  unfold updQ
  dsimp only
  rw [if_pos rfl, if_pos rfl]; exact hq
end Go.Proofs.YtmldighidbfhhaaDoor
namespace Go.Proofs.YtmldighidbfhhaaDoor
open Go Go.RowKit
set_option linter.unusedVariables false

/-- An operation that is asked for. -/
structure HAsk where
  wk : Int
  look : Bool
  key : ByteArray
  ref : Int
def HAsk.val (a : HAsk) : Value := .agg #[.int .i64 a.wk, .bool a.look, .string a.key, .int .i64 a.ref]
/-- The operation that is begun. -/
def HAsk.op (a : HAsk) : AHop := .new a.key (if a.look = true then 0 else a.ref) (!a.look)

theorem Has.since {w w1 w2 : World} {A : Part} (h : Has [] w1 w2 A) (k : Kept [] w w1) : Has [] w w2 A := by
  obtain ⟨fp, hA, hn, k'⟩ := h
  exact ⟨fp, hA, fun x hx => .inr (Nat.le_trans k.size ((hn x hx).resolve_left (by simp))), k.tr k'⟩

set_option maxHeartbeats 1000000 in
set_option maxRecDepth 100000 in
theorem begun_walk (w : World) (tb : Option Addr) (a : HAsk) :
    Calls Tryd.prog 27 #[.pointer tb, a.val] w fun e w' => ∃ ob, e = .returned (.pointer (some ⟨ob, 0, none⟩)) ∧ Has [] w w' (.hop ob tb a.op) := by
  obtain ⟨wk, lk, key, ref⟩ := a
  have k1 : Kept [] w (w.alloc (.cells #[.int .i64 wk, .bool lk, .string key, .int .i64 ref] 41)) := (Kept.refl [] w).alloc _
  have HK := Lib.hid k1
  cases lk with
  | true =>
    have HL := Lib.hid (lookup_walk (w.alloc (.cells #[.int .i64 wk, .bool true, .string key, .int .i64 ref] 41)) tb key)
    clear k1
    unfold HAsk.val
    go_enter Tryd.func27, Tryd.ntmps27
    go_wp2_with fail
    refine HL.out.mono ?_
    rintro e w2 ⟨ob, rfl, hX⟩
    have HX := Lib.hid (hX.since HK.out)
    clear hX
    go_wp2_with fail
    go_ret
    exact ⟨ob, rfl, HX.out⟩
  | false =>
    have HL := Lib.hid (insert_walk (w.alloc (.cells #[.int .i64 wk, .bool false, .string key, .int .i64 ref] 41)) tb key ref)
    clear k1
    unfold HAsk.val
    go_enter Tryd.func27, Tryd.ntmps27
    go_wp2_with fail
    refine HL.out.mono ?_
    rintro e w2 ⟨ob, rfl, hX⟩
    have HX := Lib.hid (hX.since HK.out)
    clear hX
    go_wp2_with fail
    go_ret
    exact ⟨ob, rfl, HX.out⟩
end Go.Proofs.YtmldighidbfhhaaDoor
namespace Go.Proofs.YtmldighidbfhhaaDoor
open Go Go.RowKit
set_option linter.unusedVariables false

/-- The worker that a number tells. -/
def wkI (z : Int) : Int := Int.tmod (Int.tmod z 4 + 4) 4
theorem wkI_range (z : Int) : 0 ≤ wkI z ∧ wkI z < 4 := by
  have h1 := Int.tmod_lt_of_pos z (b := 4) (by omega)
  have h2 := Int.lt_tmod_of_pos z (b := 4) (by omega)
  unfold wkI
  rw [Int.tmod_eq_emod_of_nonneg (by omega)]
  omega
def wkN (z : Int) : Nat := (wkI z).toNat
theorem wkN_lt (z : Int) : wkN z < 4 := by have := wkI_range z; unfold wkN; omega
theorem wkN_eq (z : Int) : (wkN z : Int) = wkI z := by have := wkI_range z; unfold wkN; omega

/-- How many of the asks from a place on are a worker's. -/
def cntF (p : Nat → Bool) : Nat → Nat → Nat
  | _, 0 => 0
  | i, k + 1 => (if p i = true then 1 else 0) + cntF p (i + 1) k
theorem cntF_le (p : Nat → Bool) (i k : Nat) : cntF p i k ≤ k := by
  induction k generalizing i with
  | zero => exact Nat.le_refl _
  | succ k ih => unfold cntF; have := ih (i + 1); split <;> omega
/-- A worker's asks that are not begun. -/
def unb (a : Nat → HAsk) (N w i : Nat) : Nat := cntF (fun j => decide (wkN (a j).wk = w)) i (N - i)
theorem unb_end (a : Nat → HAsk) (N w i : Nat) (h : N ≤ i) : unb a N w i = 0 := by
  unfold unb; rw [show N - i = 0 by omega]; rfl
theorem unb_skip (a : Nat → HAsk) (N w i : Nat) (h : i < N) (hw : wkN (a i).wk ≠ w) : unb a N w (i + 1) = unb a N w i := by
  unfold unb
  rw [show N - i = (N - (i + 1)) + 1 by omega]
  show _ = (if decide (wkN (a i).wk = w) = true then 1 else 0) + _
  rw [if_neg (by simpa using hw)]; omega
theorem unb_take (a : Nat → HAsk) (N w i : Nat) (h : i < N) (hw : wkN (a i).wk = w) : unb a N w (i + 1) + 1 = unb a N w i := by
  unfold unb
  rw [show N - i = (N - (i + 1)) + 1 by omega]
  show _ = (if decide (wkN (a i).wk = w) = true then 1 else 0) + _
  rw [if_pos (by simpa using hw)]; omega

/-- The sum over the four workers. -/
def sum4 (f : Nat → Nat) : Nat := f 0 + f 1 + f 2 + f 3
theorem cntF_four (f : Nat → Nat) (hf : ∀ j, f j < 4) (i k : Nat) : sum4 (fun w => cntF (fun j => decide (f j = w)) i k) = k := by
  induction k generalizing i with
  | zero => rfl
  | succ k ih =>
    have h9 := ih (i + 1)
    have step : ∀ w, cntF (fun j => decide (f j = w)) i (k + 1) = (if f i = w then 1 else 0) + cntF (fun j => decide (f j = w)) (i + 1) k := fun w => by
      show (if decide (f i = w) = true then 1 else 0) + _ = _
      simp only [decide_eq_true_eq]
    have hif : (if f i = 0 then 1 else 0) + (if f i = 1 then 1 else 0) + (if f i = 2 then 1 else 0) + (if f i = 3 then 1 else 0) = 1 := by
      have h := hf i
      rcases (by omega : f i = 0 ∨ f i = 1 ∨ f i = 2 ∨ f i = 3) with e | e | e | e <;> rw [e] <;> rfl
    unfold sum4 at h9 ⊢
    dsimp only at h9 ⊢
    rw [step 0, step 1, step 2, step 3]
    omega
theorem unb_four (a : Nat → HAsk) (N : Nat) : sum4 (fun w => unb a N w 0) = N := cntF_four (fun j => wkN (a j).wk) (fun j => wkN_lt _) 0 N
end Go.Proofs.YtmldighidbfhhaaDoor
namespace Go.Proofs.YtmldighidbfhhaaDoor
open Go Go.ChangeShapes Go.WideShapes Go.ChangeAt Go.RowKit
set_option linter.unusedVariables false

/-- Asks that can be read. -/
def AskIn (w : World) (p : Option Addr) (n : Nat) (f : Nat → HAsk) : Prop :=
  0 < n → ∃ g off, p = some ⟨g, off, none⟩ ∧ ∀ i, i < n → w.cell? ⟨g, off + i * 4, none⟩ = some (.int .i64 (f i).wk) ∧ w.cell? ⟨g, off + i * 4 + 1, none⟩ = some (.bool (f i).look) ∧ w.cell? ⟨g, off + i * 4 + 2, none⟩ = some (.string (f i).key) ∧ w.cell? ⟨g, off + i * 4 + 3, none⟩ = some (.int .i64 (f i).ref) ∧
    (-9223372036854775808 ≤ (f i).wk ∧ (f i).wk < 9223372036854775808)
theorem AskIn.kept {w w' : World} {p : Option Addr} {n : Nat} {f : Nat → HAsk} (h : AskIn w p n f) (k : Kept [] w w') : AskIn w' p n f := by
  intro h0
  obtain ⟨g, off, e, hc⟩ := h h0
  exact ⟨g, off, e, fun i hi => ⟨k.cell (hc i hi).1 (by simp), k.cell (hc i hi).2.1 (by simp), k.cell (hc i hi).2.2.1 (by simp), k.cell (hc i hi).2.2.2.1 (by simp), (hc i hi).2.2.2.2⟩⟩

section
variable {H : Type} {enc : TypeId × Value → H}

noncomputable def askFields (t : TypeId) : Array Field := match Tryd.prog.underlying t with | some (.struct fs) => fs | _ => #[]
theorem rk_ask : Tryd.prog.underlying 41 = some (.struct (askFields 41)) := by kernel_rfl
theorem rk_askC : Tryd.prog.cellsOf 41 = 4 := by kernel_rfl
theorem rk_askF : ((askFields 41).map fun f : Field => (f.type, f.offset)) = #[(3, 0), (4, 1), (9, 2), (3, 3)] := by kernel_rfl
theorem rk_askI : Tryd.prog.cellsOf 3 = 1 := by kernel_rfl
theorem rk_askB : Tryd.prog.cellsOf 4 = 1 := by kernel_rfl
theorem rk_askS : Tryd.prog.cellsOf 9 = 1 := by kernel_rfl

set_option maxRecDepth 100000 in
theorem ask_cells {W : World} {n : Nat} {cs : List Value} {x : DataW H × List MemPlace} (h : DataW.trod enc Tryd.prog W 0 (fun _ => true) true n 41 cs = some x) :
    ∃ a : HAsk, cs = [.int .i64 a.wk, .bool a.look, .string a.key, .int .i64 a.ref] ∧ (-9223372036854775808 ≤ a.wk ∧ a.wk < 9223372036854775808) := by
  obtain ⟨xs, m, _, _, hlen, hxs, hf⟩ := DataW.trod_struct rk_ask h
  rw [rk_askC] at hlen
  have hF := rk_askF
  generalize (askFields 41) = fs at *
  have hsz : fs.size = 4 := by have := congrArg Array.size hF; simpa using this
  match cs, hlen with
  | [c0, c1, c2, c3], _ =>
    have at_ : ∀ (i : Nat) (p : TypeId × Nat), (#[(3, 0), (4, 1), (9, 2), (3, 3)] : Array (TypeId × Nat))[i]? = some p → ∃ y, DataW.trod enc Tryd.prog W 0 (fun _ => true) true m p.1 (([c0, c1, c2, c3].drop p.2).take (Tryd.prog.cellsOf p.1)) = some y := by
      intro i p hp
      rw [← hF, Array.getElem?_map] at hp
      cases hfi : fs[i]? with
      | none => rw [hfi] at hp; cases hp
      | some f =>
        rw [hfi] at hp
        simp only [Option.map_some, Option.some.injEq] at hp
        subst hp
        have hi : i < fs.size := (Array.getElem?_eq_some_iff.1 hfi).1
        refine ⟨xs[i]'(by omega), ?_⟩
        rw [hf i f hfi]
        exact List.getElem?_eq_getElem (by omega)
    obtain ⟨y0, h0⟩ := at_ 0 (3, 0) rfl
    obtain ⟨y1, h1⟩ := at_ 1 (4, 1) rfl
    obtain ⟨y2, h2⟩ := at_ 2 (9, 2) rfl
    obtain ⟨y3, h3⟩ := at_ 3 (3, 3) rfl
    simp only [rk_askI, rk_askB, rk_askS] at h0 h1 h2 h3
    obtain ⟨z0, e0, _, r0⟩ := DataW.trod_int (k := .i64) Tryd.underlying3 h0
    obtain ⟨z1, e1, _⟩ := DataW.trod_bool Tryd.underlying4 h1
    obtain ⟨z2, e2, _⟩ := DataW.trod_string Tryd.underlying9 h2
    obtain ⟨z3, e3, _⟩ := DataW.trod_int (k := .i64) Tryd.underlying3 h3
    simp at e0 e1 e2 e3
    subst e0 e1 e2 e3
    refine ⟨⟨z0, z1, z2, z3⟩, rfl, ?_⟩
    simp only [Lit.wf, Bool.and_eq_true, decide_eq_true_eq] at r0
    have m1 : IntKind.i64.min = -9223372036854775808 := by decide
    have m2 : IntKind.i64.max = 9223372036854775807 := by decide
    show -9223372036854775808 ≤ z0 ∧ z0 < 9223372036854775808
    omega

set_option maxRecDepth 100000 in
/-- A slice of asks that came in. -/
theorem asks_in {t : TypeId} {W : World} {r : Reach} {b0 : Nat} {v : Value} {d : DataW H} {ps : List MemPlace} (ht : Tryd.prog.underlying t = some (.slice 41))
    (hval : Value.okWide Tryd.prog W r b0 t v) (h : DataW.Trod enc Tryd.prog W 0 (fun _ => true) true t v d ps) :
    ∃ p len cap, ∃ f : Nat → HAsk, v = .slice p len cap ∧ len ≤ cap ∧ cap ≤ maxLen ∧ ((d = .nil ∧ len = 0) ∨ ∃ elems rest, d = .slice elems rest ∧ elems.length = len) ∧ AskIn W p len f := by
  obtain ⟨p, len, cap, rfl, hl, hm, hd, hp⟩ := rows_in ht rk_askC (by omega) hval h
  by_cases hpos : 0 < len
  · obtain ⟨b, off, rfl, hb, hi⟩ := hp hpos
    have hex : ∀ i, ∃ a : HAsk, i < len → W.cell? ⟨b, off + i * 4, none⟩ = some (.int .i64 a.wk) ∧ W.cell? ⟨b, off + i * 4 + 1, none⟩ = some (.bool a.look) ∧ W.cell? ⟨b, off + i * 4 + 2, none⟩ = some (.string a.key) ∧ W.cell? ⟨b, off + i * 4 + 3, none⟩ = some (.int .i64 a.ref) ∧ (-9223372036854775808 ≤ a.wk ∧ a.wk < 9223372036854775808) := by
      intro i
      by_cases hil : i < len
      · obtain ⟨cs, n, x, hlen, hc, htr⟩ := hi i hil
        obtain ⟨a, rfl, h1⟩ := ask_cells htr
        exact ⟨a, fun _ => ⟨hc 0 (by omega), hc 1 (by omega), hc 2 (by omega), hc 3 (by omega), h1⟩⟩
      · exact ⟨⟨0, false, ⟨#[]⟩, 0⟩, fun h => absurd h hil⟩
    obtain ⟨f, hf⟩ := Classical.axiomOfChoice hex
    exact ⟨_, len, cap, f, rfl, hl, hm, hd, fun _ => ⟨b, off, rfl, fun i hi => hf i hi⟩⟩
  · exact ⟨p, len, cap, fun _ => ⟨0, false, ⟨#[]⟩, 0⟩, rfl, hl, hm, hd, fun h => absurd h hpos⟩
end
end Go.Proofs.YtmldighidbfhhaaDoor
namespace Go.Proofs.YtmldighidbfhhaaDoor
open Go Go.ChangeShapes Go.WideShapes Go.ChangeAt Go.RowKit
set_option linter.unusedVariables false
section
variable {H : Type} {enc : TypeId × Value → H}

set_option maxRecDepth 100000 in
/-- A slice of integers that came in. -/
theorem ints_in2 {t e : TypeId} {k : IntKind} {W : World} {r : Reach} {b0 : Nat} {v : Value} {d : DataW H} {ps : List MemPlace} (ht : Tryd.prog.underlying t = some (.slice e)) (he : Tryd.prog.underlying e = some (.int k)) (hc : Tryd.prog.cellsOf e = 1)
    (hval : Value.okWide Tryd.prog W r b0 t v) (h : DataW.Trod enc Tryd.prog W 0 (fun _ => true) true t v d ps) :
    ∃ p len cap zs, v = .slice p len cap ∧ zs.length = len ∧ len ≤ cap ∧ cap ≤ maxLen ∧ (∀ n ∈ zs, (Lit.int k n).wf = true) ∧ (p = none → len = 0 ∧ cap = 0) ∧ ((d = .nil ∧ len = 0) ∨ ∃ rest, d = .slice (lits k zs) rest) ∧
      (0 < len → ∃ b off, p = some ⟨b, off, none⟩ ∧ b < W.heap.size ∧ ∀ i, i < len → W.cell? ⟨b, off + i, none⟩ = some (.int k (zs.getD i 0))) := by
  obtain ⟨a0, len, cap, rfl⟩ := okWide_slice ht hval
  obtain ⟨fuel, hf⟩ := h
  rcases open_ints ht he hc hf with ⟨hcs, hx⟩ | ⟨a, len', cap', zs, hcs, _, hl, hm, hz, hx, hcell, hwz⟩
  · simp [Value.cells] at hcs
    obtain ⟨rfl, rfl, rfl⟩ := hcs
    simp only [Prod.mk.injEq] at hx
    exact ⟨_, _, _, [], rfl, rfl, Nat.le_refl _, Nat.zero_le _, by simp, fun _ => ⟨rfl, rfl⟩, .inl ⟨hx.1, rfl⟩, by omega⟩
  · simp [Value.cells] at hcs
    obtain ⟨rfl, rfl, rfl⟩ := hcs
    simp only [Prod.mk.injEq] at hx
    simp only [if_true] at hz
    have hlen : (zs.take len).length = len := by simp; omega
    refine ⟨_, _, _, zs.take len, rfl, hlen, hl, hm, fun n hn => hwz n (List.mem_of_mem_take hn), fun e => (by cases e), .inr ⟨_, hx.1⟩, fun hpos => ?_⟩
    have h0 : W.cell? a = some (.int k (zs.getD 0 0)) := by have := hcell 0 (by omega); simpa [Addr.add] using this
    have hsp := World.cell?_spot h0
    obtain ⟨b, off, spot⟩ := a
    obtain rfl : spot = none := hsp
    have hcell' : ∀ i, i < len → W.cell? ⟨b, off + i, none⟩ = some (.int k ((zs.take len).getD i 0)) := by
      intro i hi
      have := hcell i (by omega)
      simp only [Addr.add] at this
      have e : (zs.take len).getD i 0 = zs.getD i 0 := by simp [List.getD_eq_getElem?_getD, hi]
      rw [e]
      split at this
      · rename_i e0; subst e0; simpa using this
      · simpa using this
    refine ⟨b, off, rfl, ?_, hcell'⟩
    have := hcell' 0 hpos
    simp only [World.cell?] at this
    split at this
    · rename_i c _ _ hh
      exact (Array.getElem?_eq_some_iff.1 hh).1
    · cases this
end

end Go.Proofs.YtmldighidbfhhaaDoor
namespace Go.Proofs.YtmldighidbfhhaaDoor
open Go Go.RowKit
set_option linter.unusedVariables false

/-- Operations under way: the table, its chains; of each operation its state, what it began with, what is behind, what was there, its ask, its times; who put an entry in; of each worker the next ask and the operation under way. -/
structure Tg where
  T : AHt
  C : Nat → List Nat
  n : Nat
  q : Nat → AHop
  S : Nat → List Nat
  s : Nat → List Nat
  D : Nat → List Nat
  x : Nat → Nat
  bg : Nat → Int
  en : Nat → Int
  wn : Nat → Nat
  pos : Nat → Nat
  now : Nat → Option Nat

/-- What an ask gives back where it puts its key in. -/
def HAsk.ref0 (a : HAsk) : Int := if a.look = true then 0 else a.ref
/-- Operation k is over. -/
def Tg.over (g : Tg) (k : Nat) : Prop := 0 ≤ g.en k
/-- Operation k is over and its key is in. -/
def Tg.here (a : Nat → HAsk) (g : Tg) (k : Nat) : Prop := 0 ≤ g.en k ∧ keyB (a (g.x k)).key = true ∧ ((a (g.x k)).look = false ∨ (g.q k).had = true)
def sumL (f : Nat → Nat) : Nat → Nat
  | 0 => 0
  | n + 1 => sumL f n + f n
def Tg.ownW (g : Tg) (w : Nat) : Nat := match g.now w with
  | none => 0
  | some k => ow (g.q k).own
def Tg.noW (g : Tg) (w : Nat) : Nat := match g.now w with
  | none => 0
  | some k => if (g.q k).own = 0 then 1 else 0
def Tg.costW (g : Tg) (N w : Nat) : Nat := match g.now w with
  | none => 0
  | some k => cost N g.T g.C (g.q k) (g.S k) (g.s k)

structure TgI (B : Nat) (a : Nat → HAsk) (N : Nat) (t : Int) (g : Tg) : Prop where
  tab : Tab g.T g.C
  nB : g.T.nB = B
  size : g.T.size = 400
  time : 0 ≤ t
  used : g.T.used = B + sumL (fun j => (g.C j).length) B + sum4 g.ownW
  nE : g.T.nE + sum4 g.noW ≤ g.n
  put : sumL (fun j => (g.C j).length) B + sum4 g.ownW ≤ g.T.nE
  asks : g.n + sum4 (fun w => unb a N w (g.pos w)) = N
  key : ∀ k, k < g.n → g.x k < N ∧ (g.q k).key = (a (g.x k)).key ∧ (g.q k).puts = !(a (g.x k)).look ∧ 0 ≤ g.bg k ∧ g.bg k < t ∧ g.en k < t ∧ (0 ≤ g.en k → g.bg k < g.en k)
  go : ∀ k, k < g.n → g.en k < 0 → g.en k = -1 ∧ g.now (wkN (a (g.x k)).wk) = some k ∧ (g.q k).ref = (a (g.x k)).ref0 ∧ OpI g.T g.C (g.q k) (g.S k) (g.s k) (g.D k)
  done : ∀ k, k < g.n → 0 ≤ g.en k → Said g.T g.C (g.q k) (g.q k).puts (a (g.x k)).ref0 (g.D k) ∧ g.D k <:+ g.C (g.T.bk (g.q k).key)
  now : ∀ w, w < 4 → ∀ k, g.now w = some k → k < g.n ∧ wkN (a (g.x k)).wk = w ∧ g.en k < 0
  apart : ∀ k l, k < g.n → l < g.n → k ≠ l → g.en k < 0 → g.en l < 0 → (g.q k).own = 0 ∨ (g.q k).own ≠ (g.q l).own
  inj : ∀ k l, k < g.n → l < g.n → g.x k = g.x l → k = l
  pos : ∀ w, w < 4 → g.pos w ≤ N
  past : ∀ k, k < g.n → g.x k < g.pos (wkN (a (g.x k)).wk)
  who : ∀ j, j < B → ∀ v ∈ g.C j, g.wn v < g.n ∧ (a (g.x (g.wn v))).look = false ∧ (a (g.x (g.wn v))).key = ky g.T v ∧ (a (g.x (g.wn v))).ref = (g.T.E (v - 1)).ref ∧ 0 ≤ g.en (g.wn v) ∧ (g.q (g.wn v)).had = false
  mine : ∀ k, k < g.n → 0 ≤ g.en k → keyB (g.q k).key = true → (g.q k).puts = true → (g.q k).had = false → ∃ v ∈ g.C (g.T.bk (g.q k).key), g.wn v = k
  met : ∀ k, k < g.n → 0 ≤ g.en k → (g.q k).had = true → ∃ l, l < g.n ∧ (a (g.x l)).look = false ∧ (a (g.x l)).key = (g.q k).key ∧ g.bg l ≤ g.en k
  seen : ∀ k l, k < g.n → l < g.n → g.here a k → g.en k < g.bg l → (g.q l).key = (g.q k).key → ∃ u ∈ g.D l, ky g.T u = (g.q l).key
end Go.Proofs.YtmldighidbfhhaaDoor
namespace Go.Proofs.YtmldighidbfhhaaDoor
open Go Go.RowKit
set_option linter.unusedVariables false

def updA {α : Type} (f : Nat → α) (i : Nat) (x : α) : Nat → α := fun j => if j = i then x else f j
theorem updA_at {α : Type} (f : Nat → α) (i : Nat) (x : α) : updA f i x i = x := if_pos rfl
theorem updA_ne {α : Type} (f : Nat → α) {i j : Nat} (x : α) (h : j ≠ i) : updA f i x j = f j := if_neg h

/-- Worker w begins its next ask. -/
def Tg.begin (a : Nat → HAsk) (t : Int) (w : Nat) (g : Tg) : Tg :=
  { g with n := g.n + 1, q := updA g.q g.n (a (g.pos w)).op, S := updA g.S g.n [], s := updA g.s g.n [], D := updA g.D g.n (g.C (g.T.bk (a (g.pos w)).key)), x := updA g.x g.n (g.pos w), bg := updA g.bg g.n t, en := updA g.en g.n (-1),
           pos := updA g.pos w (g.pos w + 1), now := updA g.now w (some g.n) }

theorem sum4_one {f h : Nat → Nat} {w : Nat} (hw : w < 4) (e : ∀ v, v < 4 → v ≠ w → h v = f v) : sum4 h + f w = sum4 f + h w := by
  unfold sum4
  rcases (by omega : w = 0 ∨ w = 1 ∨ w = 2 ∨ w = 3) with rfl | rfl | rfl | rfl
  · rw [e 1 (by omega) (by omega), e 2 (by omega) (by omega), e 3 (by omega) (by omega)]; omega
  · rw [e 0 (by omega) (by omega), e 2 (by omega) (by omega), e 3 (by omega) (by omega)]; omega
  · rw [e 0 (by omega) (by omega), e 1 (by omega) (by omega), e 3 (by omega) (by omega)]; omega
  · rw [e 0 (by omega) (by omega), e 1 (by omega) (by omega), e 2 (by omega) (by omega)]; omega

variable {B : Nat} {a : Nat → HAsk} {N : Nat} {t : Int} {g : Tg}

/-- A key that is in stands in its chain. -/
theorem TgI.inC (h : TgI B a N t g) {k : Nat} (hk : k < g.n) (hh : g.here a k) : ∃ u ∈ g.C (g.T.bk (g.q k).key), ky g.T u = (g.q k).key := by
  obtain ⟨h1, h2, h3⟩ := hh
  obtain ⟨_, b2, b3, _⟩ := h.key k hk
  obtain ⟨⟨_, hs⟩, _⟩ := h.done k hk h1
  rcases hs with ⟨c1, _⟩ | ⟨_, _, ⟨_, v, d1, d2, _⟩ | ⟨d1, d2, _⟩ | ⟨_, _, _, ⟨v, d1, d2, _⟩, _⟩⟩
  · rw [b2, h2] at c1; cases c1
  · exact ⟨v, d1, d2⟩
  · rcases h3 with e | e
    · rw [b3, e] at d2; cases d2
    · rw [d1] at e; cases e
  · exact ⟨v, d1, d2⟩

theorem TgI.begin (h : TgI B a N t g) {w : Nat} (hw : w < 4) (hnow : g.now w = none) (hp : g.pos w < N) (hk : wkN (a (g.pos w)).wk = w) : TgI B a N (t + 1) (g.begin a t w) := by
  have lt_ne : ∀ {k : Nat}, k < g.n → k ≠ g.n := fun h => by omega
  have hq : ∀ k, k < g.n → (g.begin a t w).q k = g.q k ∧ (g.begin a t w).x k = g.x k ∧ (g.begin a t w).bg k = g.bg k ∧ (g.begin a t w).en k = g.en k ∧ (g.begin a t w).S k = g.S k ∧ (g.begin a t w).s k = g.s k ∧ (g.begin a t w).D k = g.D k := fun k hk9 =>
    ⟨updA_ne _ _ (lt_ne hk9), updA_ne _ _ (lt_ne hk9), updA_ne _ _ (lt_ne hk9), updA_ne _ _ (lt_ne hk9), updA_ne _ _ (lt_ne hk9), updA_ne _ _ (lt_ne hk9), updA_ne _ _ (lt_ne hk9)⟩
  have nq : (g.begin a t w).q g.n = (a (g.pos w)).op := updA_at _ _ _
  have nx : (g.begin a t w).x g.n = g.pos w := updA_at _ _ _
  have nbg : (g.begin a t w).bg g.n = t := updA_at _ _ _
  have nen : (g.begin a t w).en g.n = -1 := updA_at _ _ _
  have nD : (g.begin a t w).D g.n = g.C (g.T.bk (a (g.pos w)).key) := updA_at _ _ _
  have nnow : (g.begin a t w).now w = some g.n := updA_at _ _ _
  have onow : ∀ v, v ≠ w → (g.begin a t w).now v = g.now v := fun v hv => updA_ne _ _ hv
  have npos : (g.begin a t w).pos w = g.pos w + 1 := updA_at _ _ _
  have opos : ∀ v, v ≠ w → (g.begin a t w).pos v = g.pos v := fun v hv => updA_ne _ _ hv
  have two : ∀ k, k < g.n + 1 → k < g.n ∨ k = g.n := fun k hk9 => by omega
  have hown : ∀ v, v < 4 → (g.begin a t w).ownW v = g.ownW v := fun v hv => by
    unfold Tg.ownW
    by_cases e : v = w
    · subst e
      rw [nnow, hnow]
      show ow ((g.begin a t v).q g.n).own = 0
      rw [nq]; rfl
    · rw [onow v e]
      cases hn : g.now v with
      | none => rfl
      | some k => show ow ((g.begin a t w).q k).own = _; rw [(hq k (h.now v hv k hn).1).1]
  have hno : ∀ v, v < 4 → v ≠ w → (g.begin a t w).noW v = g.noW v := fun v hv e => by
    unfold Tg.noW
    rw [onow v e]
    cases hn : g.now v with
    | none => rfl
    | some k => show (if ((g.begin a t w).q k).own = 0 then 1 else 0) = _; rw [(hq k (h.now v hv k hn).1).1]
  have hnw : (g.begin a t w).noW w = 1 ∧ g.noW w = 0 := by
    unfold Tg.noW
    rw [nnow, hnow]
    refine ⟨?_, rfl⟩
    show (if ((g.begin a t w).q g.n).own = 0 then 1 else 0) = 1
    rw [nq]; rfl
  have he4 : sum4 (g.begin a t w).ownW = sum4 g.ownW := by
    unfold sum4
    rw [hown 0 (by omega), hown 1 (by omega), hown 2 (by omega), hown 3 (by omega)]
  refine ⟨h.tab, h.nB, h.size, by have := h.time; omega, ?_, ?_, ?_, ?_, fun k hk9 => ?_, fun k hk9 he => ?_, fun k hk9 he => ?_, fun v hv k hv2 => ?_, fun k l hk9 hl9 hkl he1 he2 => ?_, fun k l hk9 hl9 e => ?_, fun v hv => ?_, fun k hk9 => ?_, fun j hj v hv => ?_, fun k hk9 he h1 h2 h3 => ?_, fun k hk9 he h1 => ?_, fun k l hk9 hl9 hh he e => ?_⟩
  · rw [he4]; exact h.used
  · have e := sum4_one (f := g.noW) (h := (g.begin a t w).noW) hw hno
    rw [hnw.1, hnw.2] at e
    have := h.nE
    show g.T.nE + _ ≤ g.n + 1
    omega
  · rw [he4]; exact h.put
  · have e := sum4_one (f := fun w => unb a N w (g.pos w)) (h := fun v => unb a N v ((g.begin a t w).pos v)) hw fun v hv e => by
      show unb a N v ((g.begin a t w).pos v) = _
      rw [opos v e]
    rw [npos] at e
    have e2 := unb_take a N w (g.pos w) hp hk
    have e3 := h.asks
    show g.n + 1 + sum4 (fun v => unb a N v ((g.begin a t w).pos v)) = N
    omega
  · rcases two k hk9 with h9 | rfl
    · obtain ⟨e1, e2, e3, e4, _⟩ := hq k h9
      rw [e1, e2, e3, e4]
      obtain ⟨b1, b2, b3, b4, b5, b6, b7⟩ := h.key k h9
      exact ⟨b1, b2, b3, b4, by omega, by omega, b7⟩
    · rw [nq, nx, nbg, nen]
      have := h.time
      exact ⟨hp, rfl, rfl, this, by omega, by omega, fun h => by omega⟩
  · rcases two k hk9 with h9 | rfl
    · obtain ⟨e1, e2, e3, e4, e5, e6, e7⟩ := hq k h9
      rw [e4] at he ⊢
      obtain ⟨b1, b2, b3, b4⟩ := h.go k h9 he
      rw [e1, e2, e5, e6, e7]
      refine ⟨b1, ?_, b3, b4⟩
      rw [onow _ fun e => by rw [e, hnow] at b2; cases b2]
      exact b2
    · rw [nen, nx, nq, nD, hk]
      refine ⟨rfl, nnow, rfl, ⟨.inl rfl, .inl rfl, List.suffix_refl _, fun h => absurd rfl h, fun h => ?_, fun h => ?_, fun h => ?_, ⟨Int.le_refl _, Int.natCast_nonneg _⟩, fun h => absurd rfl h⟩⟩
      · have : (0 : Int) = 1 := h; omega
      · have : (0 : Int) = 2 ∨ (0 : Int) = 3 := h; omega
      · have : (0 : Int) = 3 := h; omega
  · rcases two k hk9 with h9 | rfl
    · obtain ⟨e1, e2, e3, e4, e5, e6, e7⟩ := hq k h9
      rw [e4] at he
      rw [e1, e2, e7]
      exact h.done k h9 he
    · rw [nen] at he; omega
  · by_cases e : v = w
    · subst e
      rw [nnow] at hv2
      obtain rfl : g.n = k := by simpa using hv2
      rw [nx, nen]
      exact ⟨Nat.lt_succ_self _, hk, by omega⟩
    · rw [onow v e] at hv2
      obtain ⟨b1, b2, b3⟩ := h.now v hv k hv2
      obtain ⟨e1, e2, e3, e4, _⟩ := hq k b1
      rw [e2, e4]
      exact ⟨Nat.lt_succ_of_lt b1, b2, b3⟩
  · rcases two k hk9 with h9 | rfl
    · rcases two l hl9 with h8 | rfl
      · rw [(hq k h9).1, (hq l h8).1]
        rw [(hq k h9).2.2.2.1] at he1
        rw [(hq l h8).2.2.2.1] at he2
        exact h.apart k l h9 h8 hkl he1 he2
      · rw [nq]
        exact Decidable.em _
    · rw [nq]; exact .inl rfl
  · have fresh : ∀ k, k < g.n → g.x k ≠ g.pos w := fun k h9 e => by
      have := h.past k h9
      rw [e, hk] at this; omega
    rcases two k hk9 with h9 | rfl
    · rcases two l hl9 with h8 | rfl
      · rw [(hq k h9).2.1, (hq l h8).2.1] at e
        exact h.inj k l h9 h8 e
      · rw [(hq k h9).2.1, nx] at e
        exact absurd e (fresh k h9)
    · rcases two l hl9 with h8 | rfl
      · rw [(hq l h8).2.1, nx] at e
        exact absurd e.symm (fresh l h8)
      · rfl
  · by_cases e : v = w
    · subst e; rw [npos]; exact hp
    · rw [opos v e]; exact h.pos v hv
  · rcases two k hk9 with h9 | rfl
    · rw [(hq k h9).2.1]
      have := h.past k h9
      by_cases e : wkN (a (g.x k)).wk = w
      · rw [e] at this ⊢; rw [npos]; omega
      · rw [opos _ e]; exact this
    · rw [nx, hk, npos]; omega
  · obtain ⟨b1, b2, b3, b4, b5, b6⟩ := h.who j hj v hv
    obtain ⟨e1, e2, e3, e4, _⟩ := hq _ b1
    show g.wn v < g.n + 1 ∧ (a ((g.begin a t w).x (g.wn v))).look = false ∧ (a ((g.begin a t w).x (g.wn v))).key = _ ∧ (a ((g.begin a t w).x (g.wn v))).ref = _ ∧ 0 ≤ (g.begin a t w).en (g.wn v) ∧ ((g.begin a t w).q (g.wn v)).had = false
    rw [e1, e2, e4]
    exact ⟨Nat.lt_succ_of_lt b1, b2, b3, b4, b5, b6⟩
  · rcases two k hk9 with h9 | rfl
    · obtain ⟨e1, e2, e3, e4, _⟩ := hq k h9
      rw [e4] at he
      rw [e1] at h1 h2 h3 ⊢
      exact h.mine k h9 he h1 h2 h3
    · rw [nen] at he; omega
  · rcases two k hk9 with h9 | rfl
    · obtain ⟨e1, e2, e3, e4, _⟩ := hq k h9
      rw [e4] at he
      rw [e1] at h1 ⊢
      obtain ⟨l, b1, b2, b3, b4⟩ := h.met k h9 he h1
      obtain ⟨f1, f2, f3, f4, _⟩ := hq l b1
      refine ⟨l, Nat.lt_succ_of_lt b1, ?_⟩
      rw [f2, f3, e4]
      exact ⟨b2, b3, b4⟩
    · rw [nen] at he; omega
  · rcases two k hk9 with h9 | rfl
    · obtain ⟨e1, e2, e3, e4, _⟩ := hq k h9
      have hh' : g.here a k := by
        unfold Tg.here at hh ⊢
        rw [e1, e2, e4] at hh
        exact hh
      rcases two l hl9 with h8 | rfl
      · obtain ⟨f1, f2, f3, f4, f5, f6, f7⟩ := hq l h8
        rw [e4, f3] at he
        rw [e1, f1] at e
        rw [f1, f7]
        exact h.seen k l h9 h8 hh' he e
      · rw [e1] at e
        rw [e, nD]
        rw [nq] at e
        have e' : (a (g.pos w)).key = (g.q k).key := e
        rw [e']
        exact h.inC h9 hh'
    · obtain ⟨h1, _⟩ := hh
      rw [nen] at h1; omega
end Go.Proofs.YtmldighidbfhhaaDoor
