/- A skip list in order; an operation under way; what a step leaves. Nothing is claimed of a program here. -/
import Derived.Test.YtpckpgdkfimapaaDoorSkipChain
namespace Go.Proofs.YtpckpgdkfimapaaDoor
open Go Go.RowKit
set_option linter.unusedVariables false

/-- A node's key. -/
def ky (T : ASk) (v : Nat) : ByteArray := (T.E v).key

/-- A list in order: of each level the chain of its nodes. -/
structure Skp (T : ASk) (C : Nat → List Nat) : Prop where
  one : 1 ≤ T.nN
  head : (T.E 0).h = 8 ∧ (T.E 0).gone = false ∧ (T.E 0).wd.size ≤ 16
  hts : ∀ i, i < T.nN → (T.E i).h ≤ 8
  wds : ∀ i, 1 ≤ i → i < T.nN → (T.E i).wd = (T.E i).key ∧ keyB (T.E i).key = true
  link : ∀ l, l < 8 → Lk T l 0 (C l)
  mem : ∀ l, l < 8 → ∀ v ∈ C l, 1 ≤ v ∧ v < T.nN ∧ (T.E v).gone = false ∧ l < (T.E v).h
  srt : ∀ l, l < 8 → (C l).Pairwise fun u v => kl (ky T u) (ky T v)
  sub : ∀ l, l + 1 < 8 → ∀ v ∈ C (l + 1), v ∈ C l

variable {T T' : ASk} {C C' : Nat → List Nat} {q q' : ASop} {D : List Nat} {own : Int}

theorem Skp.srt0 (h : Skp T C) {l : Nat} (hl : l < 8) : Srt (ky T) 0 (C l) :=
  ⟨fun v hv => ⟨by have := (h.mem l hl v hv).1; omega, .inl rfl⟩, h.srt l hl⟩
theorem Skp.low (h : Skp T C) : ∀ {l : Nat}, l < 8 → ∀ v ∈ C l, v ∈ C 0
  | 0, _, v, hv => hv
  | l + 1, hl, v, hv => h.low (by omega) v (h.sub l hl v hv)
theorem Skp.next (h : Skp T C) {l p : Nat} (hl : l < 8) (hp : p = 0 ∨ p ∈ C l) :
    ((T.E p).nx l = 0 ∧ ∀ u ∈ C l, ¬ aft (ky T) p u) ∨ ∃ m ∈ C l, (T.E p).nx l = (m : Int) ∧ aft (ky T) p m ∧ ∀ u ∈ C l, aft (ky T) p u → u = m ∨ kl (ky T m) (ky T u) := Lk.next (h.link l hl) (h.srt0 hl) hp
theorem Skp.uniq (h : Skp T C) {l u v : Nat} (hl : l < 8) (hu : u ∈ C l) (hv : v ∈ C l) (e : ky T u = ky T v) : u = v := by
  have : ∀ s : List Nat, s.Pairwise (fun u v => kl (ky T u) (ky T v)) → u ∈ s → v ∈ s → u = v := by
    intro s
    induction s with
    | nil => intro _ h; cases h
    | cons x s ih =>
      intro hs h1 h2
      rw [List.pairwise_cons] at hs
      rcases List.mem_cons.1 h1 with e1 | h3
      · rcases List.mem_cons.1 h2 with e2 | h4
        · exact e1.trans e2.symm
        · have := hs.1 v h4; rw [← e1, e] at this; exact absurd this (kl_irrefl _)
      · rcases List.mem_cons.1 h2 with e2 | h4
        · have := hs.1 u h3; rw [← e2, e] at this; exact absurd this (kl_irrefl _)
        · exact ih hs.2 h3 h4
  exact this _ (h.srt l hl) hu hv
theorem Skp.atp (h : Skp T C) {l p : Nat} (hl : l < 8) (hp : p = 0 ∨ p ∈ C l) : T.at_ (p, l) = some ((T.E p).nx l) := by
  unfold ASk.at_
  refine if_pos ?_
  rcases hp with rfl | hp
  · exact ⟨h.one, h.head.2.1, by rw [h.head.1]; exact hl⟩
  · obtain ⟨_, h2, h3, h4⟩ := h.mem l hl p hp
    exact ⟨h2, h3, h4⟩

/-- A node ahead of a key, at a level. -/
def Bef (T : ASk) (C : Nat → List Nat) (key : ByteArray) (l p : Nat) : Prop := p = 0 ∨ (p ∈ C l ∧ kl (ky T p) key)
theorem Bef.mem {key : ByteArray} {l p : Nat} (h : Bef T C key l p) : p = 0 ∨ p ∈ C l := h.imp id fun h => h.1
/-- A level that was looked at. -/
def Brk (T : ASk) (C : Nat → List Nat) (q : ASop) (l : Nat) : Prop :=
  ∃ p s : Nat, q.preds l = (p : Int) ∧ q.succs l = (s : Int) ∧ Bef T C q.key l p ∧ (s = 0 ∨ (s ∈ C l ∧ ¬ kl (ky T s) q.key))

/-- An operation under way. -/
structure OpI (T : ASk) (C : Nat → List Nat) (q : ASop) (D : List Nat) : Prop where
  made : ∀ u ∈ D, u ∈ C 0
  kind : q.kind = 0 ∨ q.kind = 1 ∨ q.kind = 2
  word : (q.kind ≠ 2 → q.wd = q.key) ∧ (q.kind = 2 → q.wd.size ≤ 16)
  key : q.begun = true → q.kind ≠ 2 → keyB q.key = true
  height : 0 ≤ q.height ∧ q.height ≤ 8 ∧ (q.kind = 0 → 1 ≤ q.height)
  had : q.had = false
  fresh : q.begun = false → q.does = 0 ∧ q.own = 0 ∧ q.linked = 0
  own : (q.own = 0 ∧ q.linked = 0) ∨ ∃ m j : Nat, q.own = (m : Int) + 1 ∧ q.linked = (j : Int) ∧ m + 1 < T.nN ∧ (T.E (m + 1)).gone = false ∧ (T.E (m + 1)).key = q.key ∧ (T.E (m + 1)).ref = q.ref ∧ (T.E (m + 1)).h = q.height.toNat ∧ q.kind = 0 ∧ q.begun = true ∧
    j < q.height.toNat ∧ ∀ l, l < 8 → (m + 1 ∈ C l ↔ l < j)
  does : q.does = 0 ∨ q.does = 1 ∨ q.does = 2
  busy : q.does ≠ 0 → q.own ≠ 0
  walk : q.begun = true → q.does = 0 → ∃ p l : Nat, q.pred = (p : Int) ∧ q.level = (l : Int) ∧ l < 8 ∧ Bef T C q.key l p
  past : q.begun = true → ∀ l : Nat, l < 8 → (q.does = 0 → q.level < (l : Int)) → Brk T C q l
  apart : q.does ≠ 0 → q.linked = 0 → q.succs 0 = 0 ∨ ky T (q.succs 0).toNat ≠ q.key
  laid : q.does = 2 → (T.E q.own.toNat).nx q.linked.toNat = q.succs q.linked.toNat

/-- What a step leaves to all others. -/
structure Rest (T T' : ASk) (C C' : Nat → List Nat) (own : Int) : Prop where
  nN : T.nN ≤ T'.nN
  size : T'.size = T.size
  ab : T'.ab = T.ab
  same : ∀ i, i < T.nN → (T'.E i).key = (T.E i).key ∧ (T'.E i).wd = (T.E i).wd ∧ (T'.E i).ref = (T.E i).ref ∧ (T'.E i).h = (T.E i).h
  gone : ∀ i : Nat, i < T.nN → (i : Int) ≠ own → (T'.E i).gone = (T.E i).gone
  sub : ∀ l, l < 8 → (C l).Sublist (C' l)
  new : ∀ l, l < 8 → ∀ v ∈ C' l, v ∈ C l ∨ ((v : Int) = own ∧ v < T.nN)
  nx : ∀ i l : Nat, i < T.nN → i ≠ 0 → (i : Int) ≠ own → l < 8 → i ∉ C l → (T'.E i).nx l = (T.E i).nx l

theorem Rest.refl (T : ASk) (C : Nat → List Nat) (own : Int) : Rest T T C C own :=
  ⟨Nat.le_refl _, rfl, rfl, fun _ _ => ⟨rfl, rfl, rfl, rfl⟩, fun _ _ _ => rfl, fun _ _ => List.Sublist.refl _, fun _ _ _ h => .inl h, fun _ _ _ _ _ _ _ => rfl⟩
theorem Rest.ky (h : Rest T T' C C' own) {v : Nat} (hv : v < T.nN) : ky T' v = ky T v := (h.same v hv).1

theorem Bef.rest (h : Rest T T' C C' own) (hs : Skp T C) {key : ByteArray} {l p : Nat} (hl : l < 8) (hb : Bef T C key l p) : Bef T' C' key l p := by
  rcases hb with e | ⟨e1, e2⟩
  · exact .inl e
  · exact .inr ⟨(h.sub l hl).subset e1, by rw [h.ky (hs.mem l hl p e1).2.1]; exact e2⟩
theorem Brk.rest (h : Rest T T' C C' own) (hs : Skp T C) {l : Nat} (hl : l < 8) (hb : Brk T C q l) : Brk T' C' q l := by
  obtain ⟨p, s, e1, e2, e3, e4⟩ := hb
  refine ⟨p, s, e1, e2, e3.rest h hs hl, e4.imp id fun ⟨f1, f2⟩ => ⟨(h.sub l hl).subset f1, ?_⟩⟩
  rw [h.ky (hs.mem l hl s f1).2.1]; exact f2
/-- Of an operation that did not step all is kept. -/
theorem OpI.rest (i : OpI T C q D) (hs : Skp T C) (h : Rest T T' C C' own) (hne : q.own = 0 ∨ q.own ≠ own) : OpI T' C' q D := by
  have hnx : ∀ m : Nat, q.own = (m : Int) + 1 → m + 1 < T.nN → ∀ l, l < 8 → m + 1 ∉ C l → (T'.E (m + 1)).nx l = (T.E (m + 1)).nx l := fun m hm hn l hl hno =>
    h.nx (m + 1) l hn (by omega) (by omega) hl hno
  refine ⟨fun u hu => (h.sub 0 (by omega)).subset (i.made u hu), i.kind, i.word, i.key, i.height, i.had, i.fresh, ?_, i.does, i.busy, fun h1 h2 => ?_, fun h1 l hl h2 => (i.past h1 l hl h2).rest h hs hl, fun h1 h2 => ?_, fun h1 => ?_⟩
  · rcases i.own with e | ⟨m, j, e1, e2, e3, e4, e5, e6, e7, e8, e9, e10, e11⟩
    · exact .inl e
    · obtain ⟨s1, s2, s3, s4⟩ := h.same (m + 1) e3
      refine .inr ⟨m, j, e1, e2, Nat.lt_of_lt_of_le e3 h.nN, ?_, s1.trans e5, s3.trans e6, s4.trans e7, e8, e9, e10, fun l hl => ?_⟩
      · rw [h.gone (m + 1) e3 (by omega)]; exact e4
      · rw [← e11 l hl]
        refine ⟨fun hv => ?_, fun hv => (h.sub l hl).subset hv⟩
        rcases h.new l hl _ hv with f | ⟨f, _⟩
        · exact f
        · omega
  · obtain ⟨p, l, e1, e2, e3, e4⟩ := i.walk h1 h2
    exact ⟨p, l, e1, e2, e3, e4.rest h hs e3⟩
  · rcases i.apart h1 h2 with e | e
    · exact .inl e
    · by_cases h3 : q.succs 0 = 0
      · exact .inl h3
      · right
        obtain ⟨p, s, _, e2, _, e4⟩ := i.past (by
          cases hb : q.begun with
          | true => rfl
          | false => exact absurd (i.fresh hb).1 h1) 0 (by omega) (fun h => absurd h h1)
        rcases e4 with e4 | ⟨e4, _⟩
        · rw [e2, e4] at h3; exact absurd rfl h3
        · rw [e2, Int.toNat_natCast, h.ky (hs.mem 0 (by omega) s e4).2.1]
          rw [e2, Int.toNat_natCast] at e; exact e
  · have h9 := i.laid h1
    rcases i.own with e | ⟨m, j, e1, e2, e3, e4, e5, e6, e7, e8, e9, e10, e11⟩
    · exact absurd e.1 (i.busy (by omega))
    · have hj8 : j < 8 := by have := i.height; omega
      have := hnx m e1 e3 j hj8 fun hv => by have := (e11 j hj8).1 hv; omega
      rw [e1, e2] at h9 ⊢
      rw [show ((m : Int) + 1).toNat = m + 1 by omega, Int.toNat_natCast] at h9 ⊢
      rw [this]; exact h9

/-- What an operation that is over says. -/
def Said (T : ASk) (C : Nat → List Nat) (q : ASop) (ref : Int) (D : List Nat) : Prop :=
  q.does = 3 ∧ ((q.kind ≠ 2 ∧ keyB q.key = false ∧ q.code = 100 ∧ q.had = false ∧ q.found = ⟨#[]⟩ ∧ q.own = 0) ∨
    (q.code = 0 ∧ (q.kind ≠ 2 → keyB q.key = true) ∧
      ((q.kind = 2 ∧ q.had = true ∧ ∃ v ∈ C 0, q.found = ky T v ∧ q.ref = (T.E v).ref ∧ ¬ kl (ky T v) q.key ∧ ∀ u ∈ D, ¬ kl (ky T u) q.key → ¬ kl (ky T u) (ky T v)) ∨
       (q.kind = 2 ∧ q.had = false ∧ q.found = ⟨#[]⟩ ∧ q.ref = 0 ∧ ∀ u ∈ D, kl (ky T u) q.key) ∨
       (q.kind ≠ 2 ∧ q.had = true ∧ q.found = q.key ∧ ∃ v ∈ C 0, ky T v = q.key ∧ q.ref = (T.E v).ref) ∨
       (q.kind = 1 ∧ q.had = false ∧ q.found = ⟨#[]⟩ ∧ q.ref = 0 ∧ ∀ u ∈ D, ky T u ≠ q.key) ∨
       (q.kind = 0 ∧ q.had = false ∧ q.found = q.key ∧ q.ref = ref ∧ ∃ v ∈ C 0, q.own = (v : Int) ∧ ky T v = q.key ∧ (T.E v).ref = ref))))
theorem Said.rest {ref : Int} (i : Said T C q ref D) (hs : Skp T C) (h : Rest T T' C C' own) (hD : ∀ u ∈ D, u ∈ C 0) : Said T' C' q ref D := by
  have hn : ∀ v ∈ C 0, v < T.nN := fun v hv => (hs.mem 0 (by omega) v hv).2.1
  have hk : ∀ v ∈ C 0, ky T' v = ky T v := fun v hv => h.ky (hn v hv)
  have hin : ∀ v ∈ C 0, v ∈ C' 0 := fun v hv => (h.sub 0 (by omega)).subset hv
  have hr : ∀ v ∈ C 0, (T'.E v).ref = (T.E v).ref := fun v hv => (h.same v (hn v hv)).2.2.1
  obtain ⟨h1, h2⟩ := i
  refine ⟨h1, h2.imp id fun ⟨a1, a2, a3⟩ => ⟨a1, a2, ?_⟩⟩
  rcases a3 with ⟨b1, b2, v, b3, b4, b5, b6, b7⟩ | ⟨b1, b2, b3, b4, b5⟩ | ⟨b1, b2, b3, v, b4, b5, b6⟩ | ⟨b1, b2, b3, b4, b5⟩ | ⟨b1, b2, b3, b4, v, b5, b6, b7, b8⟩
  · refine .inl ⟨b1, b2, v, hin v b3, by rw [hk v b3]; exact b4, by rw [hr v b3]; exact b5, by rw [hk v b3]; exact b6, fun u hu => ?_⟩
    rw [hk v b3, hk u (hD u hu)]; exact b7 u hu
  · exact .inr (.inl ⟨b1, b2, b3, b4, fun u hu => by rw [hk u (hD u hu)]; exact b5 u hu⟩)
  · exact .inr (.inr (.inl ⟨b1, b2, b3, v, hin v b4, by rw [hk v b4]; exact b5, by rw [hr v b4]; exact b6⟩))
  · exact .inr (.inr (.inr (.inl ⟨b1, b2, b3, b4, fun u hu => by rw [hk u (hD u hu)]; exact b5 u hu⟩)))
  · exact .inr (.inr (.inr (.inr ⟨b1, b2, b3, b4, v, hin v b5, b6, by rw [hk v b5]; exact b7, by rw [hr v b5]; exact b8⟩)))

/-- What a step of an operation under way asks is there. -/
theorem OpI.ok (i : OpI T C q D) (hs : Skp T C) (hN : T.nN ≤ 65536) (hfit : T.used + 8 ≤ T.size) : SkOk T q := by
  have nat : ∀ {p l : Nat}, l < 8 → (p = 0 ∨ p ∈ C l) → 0 ≤ (T.E p).nx l ∧ (T.E p).nx l < T.nN := fun {p l} hl hp => by
    rcases hs.next hl hp with ⟨e, _⟩ | ⟨m, hm, e, _⟩
    · have := hs.one; omega
    · have := hs.mem l hl m hm; omega
  have hown8 : ∀ j : Nat, j < q.height.toNat → j < 8 := fun j hj => by have := i.height; omega
  refine ⟨i.kind, fun k hk => ?_, hs.hts, fun _ => ?_, ⟨i.height.1, i.height.2.1⟩, hN, by have := i.height; omega, ?_, by have := i.does; omega, fun hb => ⟨(i.fresh hb).1, _, hs.atp (by omega) (.inl rfl), (nat (by omega) (.inl rfl)).1⟩, fun hb hd => ?_, fun hb hd => ?_, fun hb hd => ?_⟩
  · by_cases e : k = 0
    · subst e; exact hs.head.2.2
    · obtain ⟨e1, e2⟩ := hs.wds k (by omega) hk
      rw [e1]
      unfold keyB at e2
      simp only [Bool.and_eq_true, decide_eq_true_eq] at e2
      exact e2.2
  · by_cases e : q.kind = 2
    · exact i.word.2 e
    · rw [i.word.1 e]
      rename_i h3
      rcases h3 with h | h | h
      · have := i.key h e
        unfold keyB at this
        simp only [Bool.and_eq_true, decide_eq_true_eq] at this
        exact this.2
      · exact absurd h e
      · unfold keyB at h
        simp only [Bool.and_eq_true, decide_eq_true_eq] at h
        exact h.2
  · rcases i.own with e | ⟨m, j, e1, e2, e3, e4, _⟩
    · exact .inl e.1
    · exact .inr ⟨m, e1, e3, e4⟩
  · obtain ⟨p, l, e1, e2, e3, e4⟩ := i.walk hb hd
    exact ⟨p, l, _, e1, e2, e3, hs.atp e3 e4.mem, (nat e3 e4.mem).1⟩
  · rcases i.own with e | ⟨m, j, e1, e2, e3, e4, e5, e6, e7, e8, e9, e10, e11⟩
    · exact absurd e.1 (i.busy (by omega))
    · have hj := hown8 j e10
      obtain ⟨p, s, f1, f2, f3, f4⟩ := i.past hb j hj (by omega)
      refine ⟨m, j, (T.E (m + 1)).nx j, e1, e2, hj, ?_, ?_⟩
      · unfold ASk.at_
        exact if_pos ⟨e3, e4, by show j < (T.E (m + 1)).h; omega⟩
      · rw [f2]
        rcases f4 with f4 | ⟨f4, _⟩
        · have := hs.one; omega
        · have := hs.mem j hj s f4; omega
  · rcases i.own with e | ⟨m, j, e1, e2, e3, e4, e5, e6, e7, e8, e9, e10, e11⟩
    · exact absurd e.1 (i.busy (by omega))
    · have hj := hown8 j e10
      obtain ⟨p, s, f1, f2, f3, f4⟩ := i.past hb j hj (by omega)
      refine ⟨p, j, _, e2, hj, f1, hs.atp hj f3.mem, ?_⟩
      rw [f2]
      rcases f4 with f4 | ⟨f4, _⟩
      · have := hs.one; omega
      · have := hs.mem j hj s f4; omega
end Go.Proofs.YtpckpgdkfimapaaDoor
