/- When all is done: who has put a key in, and what all others were told. Nothing is claimed of a program here. -/
import Derived.Test.YtpckpgdkfimapaaDoorSkipTogP
namespace Go.Proofs.YtpckpgdkfimapaaDoor
open Go Go.RowKit
set_option linter.unusedVariables false

variable {a : Nat → SAsk} {N : Nat} {t : Int} {g : Tg}

/-- All are over. -/
structure Fin (a : Nat → SAsk) (N : Nat) (t : Int) (g : Tg) : Prop where
  inv : TgI a N t g
  n : g.n = N
  over : ∀ k, k < N → 0 ≤ g.en k

/-- An operation that put its key in. -/
def putB (a : Nat → SAsk) (g : Tg) (k : Nat) : Bool := decide ((a (g.x k)).kd = 0) && !(g.q k).had && decide ((g.q k).code = 0)
theorem putB_iff {k : Nat} : putB a g k = true ↔ (a (g.x k)).kd = 0 ∧ (g.q k).had = false ∧ (g.q k).code = 0 := by
  unfold putB; simp [and_assoc]

theorem Fin.key (F : Fin a N t g) {k : Nat} (hk : k < N) : g.x k < N ∧ (g.q k).key = (a (g.x k)).key ∧ (g.q k).kind = (a (g.x k)).kd ∧ g.bg k < g.en k ∧ ((a (g.x k)).kd = 0 → (g.q k).height = hgt (a (g.x k)).height) := by
  obtain ⟨b1, b2, b3, b4, _, _, _, b8, _⟩ := F.inv.key k (by rw [F.n]; exact hk)
  exact ⟨b1, b2, b3, b8 (F.over k hk), b4⟩
theorem Fin.said (F : Fin a N t g) {k : Nat} (hk : k < N) : Said g.T g.C (g.q k) (a (g.x k)).ref (g.D k) ∧ ∀ u ∈ g.D k, u ∈ g.C 0 := F.inv.done k (by rw [F.n]; exact hk) (F.over k hk)
theorem Fin.v1 (F : Fin a N t g) {v : Nat} (hv : v ∈ g.C 0) : 1 ≤ v := (F.inv.skp.mem 0 (by omega) v hv).1
/-- Who owns a node that is in has put it in. -/
theorem Fin.who (F : Fin a N t g) {v : Nat} (hv : v ∈ g.C 0) : ∃ l, l < N ∧ putB a g l = true ∧ (g.q l).own = (v : Int) ∧ ky g.T v = (a (g.x l)).key ∧ (g.T.E v).ref = (a (g.x l)).ref := by
  obtain ⟨l, b1, b2, b3, b4, b5, b6⟩ := F.inv.who v hv
  have hl : l < N := by rw [← F.n]; exact b1
  refine ⟨l, hl, putB_iff.2 ⟨b4, b3, ?_⟩, b2, b5, b6⟩
  have hv1 := F.v1 hv
  obtain ⟨⟨_, hs⟩, _⟩ := F.said hl
  rcases hs with ⟨_, _, _, _, _, c⟩ | ⟨c, _⟩
  · omega
  · exact c
/-- What was put in is in. -/
theorem Fin.mine (F : Fin a N t g) {k : Nat} (hk : k < N) (h : putB a g k = true) : ∃ v ∈ g.C 0, (g.q k).own = (v : Int) ∧ ky g.T v = (a (g.x k)).key ∧ (g.q k).ref = (a (g.x k)).ref ∧ (g.q k).found = (a (g.x k)).key := by
  obtain ⟨h1, h2, h3⟩ := putB_iff.1 h
  obtain ⟨_, e1, e2, _⟩ := F.key hk
  obtain ⟨⟨_, hs⟩, _⟩ := F.said hk
  rcases hs with ⟨_, _, c, _⟩ | ⟨_, _, ⟨c, _⟩ | ⟨c, _⟩ | ⟨_, c, _⟩ | ⟨c, _⟩ | ⟨_, _, c3, c4, v, c5, c6, c7, _⟩⟩
  · omega
  · omega
  · omega
  · rw [c] at h2; cases h2
  · omega
  · exact ⟨v, c5, c6, by rw [c7, e1], c4, by rw [c3, e1]⟩
theorem Fin.own (F : Fin a N t g) {k l : Nat} {v : Nat} (hk : k < N) (hl : l < N) (hv : v ∈ g.C 0) (h1 : (g.q k).own = (v : Int)) (h2 : (g.q l).own = (v : Int)) : k = l := by
  have hv1 := F.v1 hv
  rcases Decidable.em (k = l) with h | h
  · exact h
  · rcases F.inv.apart k l (by rw [F.n]; exact hk) (by rw [F.n]; exact hl) h with e | e <;> omega
/-- Of all that ask for a key just one puts it in. -/
theorem Fin.uniq (F : Fin a N t g) {k l : Nat} (hk : k < N) (hl : l < N) (h1 : putB a g k = true) (h2 : putB a g l = true) (e : (a (g.x k)).key = (a (g.x l)).key) : k = l := by
  obtain ⟨v, v1, v2, v3, _⟩ := F.mine hk h1
  obtain ⟨u, u1, u2, u3, _⟩ := F.mine hl h2
  have := F.inv.skp.uniq (l := 0) (by omega) v1 u1 (by rw [v3, u3, e])
  subst this
  exact F.own hk hl v1 v2 u2
/-- What was found was begun to be put in ahead of its being found. -/
theorem Fin.met (F : Fin a N t g) {k : Nat} (hk : k < N) (hh : (g.q k).had = true) : ∃ l, l < N ∧ putB a g l = true ∧ (a (g.x l)).key = (g.q k).found ∧ g.bg l ≤ g.en k := by
  obtain ⟨l, v, b1, b2, b3, b4, b5⟩ := F.inv.met k (by rw [F.n]; exact hk) (F.over k hk) hh
  obtain ⟨m, c1, c2, c3, c4, _⟩ := F.who b2
  have := F.own (by rw [← F.n]; exact b1) c1 b2 b3 c3
  subst this
  exact ⟨l, c1, c2, by rw [← c4]; exact b4, b5⟩

/-- What an operation was told. -/
structure Told (a : Nat → SAsk) (N : Nat) (g : Tg) (k : Nat) : Prop where
  code : (g.q k).code = 0
  key : (a (g.x k)).kd ≠ 2 → keyB (a (g.x k)).key = true
  ins : (a (g.x k)).kd = 0 → (g.q k).found = (a (g.x k)).key ∧ ∃ l, l < N ∧ putB a g l = true ∧ (a (g.x l)).key = (a (g.x k)).key ∧ (g.q k).ref = (a (g.x l)).ref ∧ ((g.q k).had = true ↔ l ≠ k) ∧ g.bg l ≤ g.en k
  had : (a (g.x k)).kd ≠ 0 → (g.q k).had = true → ∃ l, l < N ∧ putB a g l = true ∧ (a (g.x l)).key = (g.q k).found ∧ (g.q k).ref = (a (g.x l)).ref ∧ g.bg l ≤ g.en k ∧ ¬ kl (g.q k).found (a (g.x k)).key ∧ ((a (g.x k)).kd = 1 → (g.q k).found = (a (g.x k)).key)
  all : (a (g.x k)).kd ≠ 0 → ∀ m, m < N → g.en m < g.bg k → (g.q m).code = 0 → ((a (g.x m)).kd = 0 ∨ (g.q m).had = true) →
    ((a (g.x k)).kd = 1 → (g.q m).found = (a (g.x k)).key → (g.q k).had = true) ∧ ((a (g.x k)).kd = 2 → ¬ kl (g.q m).found (a (g.x k)).key → (g.q k).had = true ∧ ¬ kl (g.q m).found (g.q k).found)

theorem Fin.told (F : Fin a N t g) {k : Nat} (hk : k < N) : (g.q k).does = 3 ∧ (((a (g.x k)).kd ≠ 2 ∧ keyB (a (g.x k)).key = false ∧ (g.q k).code = 100 ∧ (g.q k).had = false ∧ (g.q k).found = ⟨#[]⟩ ∧ (g.q k).own = 0) ∨ Told a N g k) := by
  obtain ⟨_, e1, e2, _⟩ := F.key hk
  obtain ⟨⟨h4, hs⟩, hD⟩ := F.said hk
  refine ⟨h4, ?_⟩
  rw [e1, e2] at hs
  refine hs.imp (fun h => h) fun ⟨c1, c2, c3⟩ => ⟨c1, c2, fun h0 => ?_, fun h0 hh => ?_, fun h0 m hm hlt hc hh => ?_⟩
  · rcases c3 with ⟨d, _⟩ | ⟨d, _⟩ | ⟨_, d2, d3, v, d4, d5, d6⟩ | ⟨d, _⟩ | ⟨_, d2, d3, d4, v, d5, d6, d7, d8⟩
    · omega
    · omega
    · obtain ⟨l, l1, l2, l3, l4, l5⟩ := F.who d4
      have hlk : (a (g.x l)).key = (a (g.x k)).key := l4.symm.trans d5
      refine ⟨d3, l, l1, l2, hlk, d6.trans l5, ⟨fun _ e => ?_, fun _ => d2⟩, ?_⟩
      · rw [e] at l2
        have := (putB_iff.1 l2).2.1
        rw [d2] at this; cases this
      · obtain ⟨m, m1, m2, m3, m4⟩ := F.met hk d2
        have := F.uniq m1 l1 m2 l2 (by rw [m3, d3, hlk])
        rw [← this]; exact m4
    · omega
    · refine ⟨d3, k, hk, putB_iff.2 ⟨h0, d2, c1⟩, rfl, d4, ⟨fun h => ?_, fun h => absurd rfl h⟩, ?_⟩
      · rw [d2] at h; cases h
      · exact Int.le_of_lt (F.key hk).2.2.2.1
  · obtain ⟨m, m1, m2, m3, m4⟩ := F.met hk hh
    have fin : ∀ v ∈ g.C 0, ky g.T v = (g.q k).found → (g.q k).ref = (g.T.E v).ref → (g.q k).ref = (a (g.x m)).ref := fun v hv e1 e2 => by
      obtain ⟨l, l1, l2, l3, l4, l5⟩ := F.who hv
      have := F.uniq m1 l1 m2 l2 (by rw [m3, ← e1, l4])
      rw [e2, l5, this]
    rcases c3 with ⟨d1, _, v, d3, d4, d5, d6, d7⟩ | ⟨_, d, _⟩ | ⟨d1, _, d3, v, d4, d5, d6⟩ | ⟨_, d, _⟩ | ⟨_, d, _⟩
    · exact ⟨m, m1, m2, m3, fin v d3 d4.symm d5, m4, by rw [d4]; exact d6, fun h => by omega⟩
    · rw [d] at hh; cases hh
    · exact ⟨m, m1, m2, m3, fin v d4 (d5.trans d3.symm) d6, m4, by rw [d3]; exact kl_irrefl _, fun _ => d3⟩
    · rw [d] at hh; cases hh
    · rw [d] at hh; cases hh
  · obtain ⟨_, f1, f2, _⟩ := F.key hm
    obtain ⟨u, hu, eu⟩ := F.inv.seen m k (by rw [F.n]; exact hm) (by rw [F.n]; exact hk) ⟨F.over m hm, hc, by rw [f2]; exact hh⟩ hlt
    refine ⟨fun h1 he => ?_, fun h2 hn => ?_⟩
    · rcases c3 with ⟨d, _⟩ | ⟨d, _⟩ | ⟨_, d, _⟩ | ⟨_, _, _, _, d⟩ | ⟨d, _⟩
      · omega
      · omega
      · exact d
      · exact absurd (eu.trans he) (d u hu)
      · omega
    · rcases c3 with ⟨_, d2, v, d3, d4, d5, d6, d7⟩ | ⟨_, _, _, _, d⟩ | ⟨d, _⟩ | ⟨d, _⟩ | ⟨d, _⟩
      · refine ⟨d2, ?_⟩
        rw [← eu] at hn ⊢
        rw [d4]; exact d7 u hu hn
      · have := d u hu
        rw [eu] at this
        exact absurd this hn
      · exact absurd h2 d
      · omega
      · omega
end Go.Proofs.YtpckpgdkfimapaaDoor
