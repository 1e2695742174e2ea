/- A step of an operation under way: what it comes to. Nothing is claimed of a program here. -/
import Derived.Test.YtpckpgdkfimapaaDoorSkipInv
namespace Go.Proofs.YtpckpgdkfimapaaDoor
open Go Go.RowKit
set_option linter.unusedVariables false

variable {T T' : ASk} {C C' : Nat → List Nat} {q q' : ASop} {D : List Nat} {own : Int} {N : Nat}

theorem Skp.step (h : Skp T C) : Skp T.step C :=
  ⟨h.one, h.head, h.hts, h.wds, fun l hl => Lk.congr (h.link l hl) fun _ _ => rfl, h.mem, h.srt, h.sub⟩
theorem Rest.step (T : ASk) (C : Nat → List Nat) (own : Int) : Rest T T.step C C own :=
  ⟨Nat.le_refl _, rfl, rfl, fun _ _ => ⟨rfl, rfl, rfl, rfl⟩, fun _ _ _ => rfl, fun _ _ => List.Sublist.refl _, fun _ _ _ h => .inl h, fun _ _ _ _ _ _ _ => rfl⟩

/-- How many nodes stand at or ahead of one. -/
def rank (T : ASk) (C : Nat → List Nat) (p : Nat) : Nat := (C 0).countP fun u => decide (p ≠ 0) && !(lessB (ky T p) (ky T u))
def seenB (q : ASop) (l : Nat) : Bool := decide (q.does ≠ 0) || decide (q.level < (l : Int))
def staleAt (T : ASk) (q : ASop) (l : Nat) : Bool := seenB q l && (decide (q.linked ≤ (l : Int)) && decide ((T.E (q.preds l).toNat).nx l ≠ q.succs l))
/-- Has a level changed that was looked at, and that is to be linked yet? -/
def stale (T : ASk) (q : ASop) : Bool := q.begun && (List.range 8).any (staleAt T q)
/-- How many steps are left, if nothing changes. -/
def left (N : Nat) (T : ASk) (C : Nat → List Nat) (q : ASop) : Nat :=
  if q.begun = false then N + 24
  else if q.does = 0 then (N - rank T C q.pred.toNat) + (q.level.toNat + 1) + 2 * (8 - q.linked.toNat)
  else if q.does = 1 then 2 * (8 - q.linked.toNat) else 2 * (8 - q.linked.toNat) - 1
def cost (N : Nat) (T : ASk) (C : Nat → List Nat) (q : ASop) : Nat := left N T C q + (if stale T q = true then N + 10 else 0)

theorem countP_lt {α : Type} {f g : α → Bool} : ∀ {s : List α}, (∀ u ∈ s, f u = true → g u = true) → (∃ v ∈ s, g v = true ∧ f v = false) → s.countP f < s.countP g
  | [], _, ⟨v, hv, _⟩ => by cases hv
  | x :: s, h, ⟨v, hv, hg, hf⟩ => by
    have hle : s.countP f ≤ s.countP g := List.countP_mono_left fun u hu => h u (by simp [hu])
    rw [List.countP_cons, List.countP_cons]
    rcases List.mem_cons.1 hv with rfl | hv
    · rw [if_pos hg, if_neg (by rw [hf]; simp)]; omega
    · have := countP_lt (fun u hu => h u (by simp [hu])) ⟨v, hv, hg, hf⟩
      by_cases hx : f x = true
      · rw [if_pos hx, if_pos (h x (by simp) hx)]; omega
      · rw [if_neg hx]; omega
theorem rank_len (T : ASk) (C : Nat → List Nat) (p : Nat) : rank T C p ≤ (C 0).length := List.countP_le_length
theorem rank_zero (T : ASk) (C : Nat → List Nat) : rank T C 0 = 0 := by
  unfold rank
  rw [List.countP_eq_zero]
  intro u _ h
  simp at h
theorem not_lessB {a c : ByteArray} : lessB a c = false ↔ ¬ kl a c := by
  rw [← lessB_iff, Bool.not_eq_true]
theorem rank_lt (hs : Skp T C) {p v : Nat} (hv : v ∈ C 0) (h : aft (ky T) p v) : rank T C p < rank T C v := by
  have hv0 := (hs.mem 0 (by omega) v hv).1
  refine countP_lt (fun u hu hf => ?_) ⟨v, hv, ?_, ?_⟩
  · simp only [Bool.and_eq_true, decide_eq_true_eq, Bool.not_eq_true'] at hf ⊢
    refine ⟨by omega, not_lessB.2 fun h2 => ?_⟩
    rcases h with h | h
    · exact hf.1 h
    · exact not_lessB.1 hf.2 (kl_trans h h2)
  · simp only [Bool.and_eq_true, decide_eq_true_eq, Bool.not_eq_true']
    exact ⟨by omega, not_lessB.2 (kl_irrefl _)⟩
  · simp only [Bool.and_eq_false_iff, decide_eq_false_iff_not, Bool.not_eq_false']
    rcases h with h | h
    · exact .inl fun h2 => h2 h
    · exact .inr (lessB_iff.2 h)

def own01 (q : ASop) : Nat := if q.own = 0 then 0 else 1
def useQ (q : ASop) : Nat := if q.own ≠ 0 ∧ q.had = false then q.height.toNat else 0

/-- What a step comes to. -/
structure Res (N : Nat) (T : ASk) (C : Nat → List Nat) (q : ASop) (D : List Nat) (r : ASk × ASop × Bool) (C' : Nat → List Nat) : Prop where
  skp : Skp r.1 C'
  rest : Rest T r.1 C C' q.own
  same : r.2.1.key = q.key ∧ r.2.1.kind = q.kind ∧ r.2.1.height = q.height
  own : r.2.1.own = q.own ∨ (q.own = 0 ∧ r.2.1.own = (T.nN : Int))
  nN : r.1.nN + own01 q = T.nN + own01 r.2.1
  used : r.1.used + useQ q = T.used + useQ r.2.1
  had : ∀ v ∈ C' 0, (v : Int) = r.2.1.own → r.2.1.had = false
  come : (r.2.2 = false ∧ OpI r.1 C' r.2.1 D ∧ r.2.1.ref = q.ref) ∨ (r.2.2 = true ∧ Said r.1 C' r.2.1 q.ref D)
  cost : (C' = C ∧ (∀ l : Nat, l < 8 → ∀ p : Nat, p = 0 ∨ p ∈ C l → (r.1.E p).nx l = (T.E p).nx l) ∧ (r.2.2 = false → cost N r.1 C r.2.1 < cost N T C q)) ∨
    ((∃ l : Nat, l < 8 ∧ (C' l).length = (C l).length + 1 ∧ ∀ j, j ≠ l → C' j = C j) ∧ (r.2.2 = false → left N r.1 C' r.2.1 ≤ left N T C q))

/-- An operation that goes on over the same list. -/
theorem OpI.upd (i : OpI T C q D) (e : q'.kind = q.kind ∧ q'.key = q.key ∧ q'.wd = q.wd ∧ q'.ref = q.ref ∧ q'.height = q.height ∧ q'.had = q.had ∧ q'.own = q.own ∧ q'.linked = q.linked) (hb : q'.begun = true) (hk : q.kind ≠ 2 → keyB q.key = true)
    (hd : q'.does = 0 ∨ q'.does = 1 ∨ q'.does = 2) (busy : q'.does ≠ 0 → q'.own ≠ 0)
    (walk : q'.does = 0 → ∃ p l : Nat, q'.pred = (p : Int) ∧ q'.level = (l : Int) ∧ l < 8 ∧ Bef T C q'.key l p)
    (past : ∀ l : Nat, l < 8 → (q'.does = 0 → q'.level < (l : Int)) → Brk T C q' l)
    (apart : q'.does ≠ 0 → q'.linked = 0 → q'.succs 0 = 0 ∨ ky T (q'.succs 0).toNat ≠ q'.key)
    (laid : q'.does = 2 → (T.E q'.own.toNat).nx q'.linked.toNat = q'.succs q'.linked.toNat) : OpI T C q' D := by
  obtain ⟨e1, e2, e3, e4, e5, e6, e7, e8⟩ := e
  refine ⟨i.made, by rw [e1]; exact i.kind, by rw [e1, e2, e3]; exact i.word, fun _ h => by rw [e2]; rw [e1] at h; exact hk h, by rw [e1, e5]; exact i.height, e6.trans i.had, fun h => by rw [hb] at h; (cases h), ?_, hd, busy, fun _ => walk, fun _ => past, apart, laid⟩
  rw [e7, e8, e2, e4, e5, e1]
  refine i.own.imp id ?_
  rintro ⟨m, j, f1, f2, f3, f4, f5, f6, f7, f8, f9, f10, f11⟩
  exact ⟨m, j, f1, f2, f3, f4, f5, f6, f7, f8, hb, f10, f11⟩

theorem Brk.like {l : Nat} (h : Brk T C q l) (e1 : q'.preds l = q.preds l) (e2 : q'.succs l = q.succs l) (e3 : q'.key = q.key) : Brk T C q' l := by
  obtain ⟨p, s, a, b, c, d⟩ := h
  exact ⟨p, s, e1.trans a, e2.trans b, by rw [e3]; exact c, by rw [e3]; exact d⟩
theorem stale_le (h : ∀ l : Nat, l < 8 → staleAt T' q' l = true → q.begun = true ∧ staleAt T q l = true) : (if stale T' q' = true then N + 10 else 0) ≤ (if stale T q = true then N + 10 else 0) := by
  by_cases h1 : stale T' q' = true
  · have h2 : stale T q = true := by
      unfold stale at h1 ⊢
      simp only [Bool.and_eq_true, List.any_eq_true, List.mem_range] at h1 ⊢
      obtain ⟨_, l, hl, h3⟩ := h1
      exact ⟨(h l hl h3).1, l, hl, (h l hl h3).2⟩
    rw [if_pos h2]; split <;> omega
  · rw [if_neg h1]; exact Nat.zero_le _

/-- What arriving comes to. -/
theorem arr_law (hs : Skp T C) (i : OpI T C q D) (hb : q.begun = true) (hd : q.does = 0) (hlen : (C 0).length ≤ N) {p : Nat} (hp : Bef T C q.key 0 p) (hl0 : q.level = 0) {v : Int} (hv : (T.E p).nx 0 = v) (hno : ¬ (0 < v ∧ lessB (T.E v.toNat).key q.key = true)) :
    Res N T C q D (arrS T.step { q with preds := updI q.preds 0 p, succs := updI q.succs 0 v } v) C := by
  have hk : q.kind ≠ 2 → keyB q.key = true := i.key hb
  -- what comes next, and that it is not below the key
  have hn := hs.next (l := 0) (by omega) hp.mem
  have hall : v = 0 → ∀ u ∈ C 0, kl (ky T u) q.key := fun h0 u hu => by
    rcases hn with ⟨_, h2⟩ | ⟨m, hm, e, _⟩
    · have := h2 u hu
      rcases hp with rfl | ⟨_, hp⟩
      · exact absurd (.inl rfl) this
      · exact kl_le_trans (fun h => this (.inr h)) hp
    · have := (hs.mem 0 (by omega) m hm).1; omega
  have hnx : v ≠ 0 → ∃ m ∈ C 0, v = (m : Int) ∧ v.toNat = m ∧ 1 ≤ m ∧ m < T.nN ∧ ¬ kl (ky T m) q.key ∧ ∀ u ∈ C 0, ¬ kl (ky T u) q.key → u = m ∨ kl (ky T m) (ky T u) := fun h0 => by
    rcases hn with ⟨e, _⟩ | ⟨m, hm, e, e2, e3⟩
    · exact absurd (hv.symm.trans e) h0
    · have hm0 := hs.mem 0 (by omega) m hm
      have ev : v = (m : Int) := hv.symm.trans e
      refine ⟨m, hm, ev, by omega, hm0.1, hm0.2.1, fun h => hno ⟨by omega, ?_⟩, fun u hu hno2 => e3 u hu ?_⟩
      · rw [ev, Int.toNat_natCast]; exact lessB_iff.2 h
      · rcases hp with rfl | ⟨_, hp⟩
        · exact .inl rfl
        · right
          rcases kl_tri (ky T p) (ky T u) with h | h | h
          · exact h
          · rw [← h] at hno2; exact absurd hp hno2
          · exact absurd (kl_trans h hp) hno2
  have hisv : isB T.step { q with preds := updI q.preds 0 p, succs := updI q.succs 0 v } v = true → q.kind ≠ 2 ∧ ∃ m ∈ C 0, v = (m : Int) ∧ v.toNat = m ∧ 1 ≤ m ∧ ky T m = q.key := fun h => by
    unfold isB at h
    simp only [Bool.and_eq_true, decide_eq_true_eq] at h
    obtain ⟨h1, h2, h3⟩ := h
    have h2 : q.kind ≠ 2 := h2
    have h3 : (T.E v.toNat).wd = q.wd := h3
    obtain ⟨m, m1, m2, m3, m4, m5, _⟩ := hnx (by omega)
    refine ⟨h2, m, m1, m2, m3, m4, ?_⟩
    rw [m3, (hs.wds m m4 m5).1, i.word.1 h2] at h3
    exact h3
  have hnis : isB T.step { q with preds := updI q.preds 0 p, succs := updI q.succs 0 v } v = false → q.kind ≠ 2 → ∀ u ∈ C 0, ky T u ≠ q.key := fun h h2 u hu e => by
    by_cases h0 : v = 0
    · have := hall h0 u hu; rw [e] at this; exact kl_irrefl _ this
    · obtain ⟨m, m1, m2, m3, m4, m5, m6, m7⟩ := hnx h0
      rcases m7 u hu (by rw [e]; exact kl_irrefl _) with rfl | h9
      · have : isB T.step { q with preds := updI q.preds 0 p, succs := updI q.succs 0 v } v = true := by
          unfold isB
          simp only [Bool.and_eq_true, decide_eq_true_eq]
          refine ⟨by omega, h2, ?_⟩
          show (T.E v.toNat).wd = q.wd
          rw [m3, (hs.wds u m4 m5).1, i.word.1 h2]; exact e
        rw [this] at h; cases h
      · rw [e] at h9; exact m6 h9
  -- the levels
  have hbrk : ∀ (q2 : ASop), q2.key = q.key → q2.preds = updI q.preds 0 p → q2.succs = updI q.succs 0 v → ∀ l : Nat, l < 8 → Brk T C q2 l := fun q2 e1 e2 e3 l hl => by
    by_cases e : l = 0
    · subst e
      obtain ⟨s, hs1, hs2⟩ : ∃ s : Nat, v = (s : Int) ∧ (s = 0 ∨ (s ∈ C 0 ∧ ¬ kl (ky T s) q.key)) := by
        by_cases h0 : v = 0
        · exact ⟨0, h0, .inl rfl⟩
        · obtain ⟨m, m1, m2, m3, m4, m5, m6, _⟩ := hnx h0
          exact ⟨m, m2, .inr ⟨m1, m6⟩⟩
      refine ⟨p, s, by rw [e2]; exact if_pos rfl, by rw [e3]; exact (if_pos rfl).trans hs1, by rw [e1]; exact hp, by rw [e1]; exact hs2⟩
    · exact (i.past hb l hl (fun _ => by rw [hl0]; omega)).like (by rw [e2]; exact if_neg e) (by rw [e3]; exact if_neg e) e1
  have hstale : ∀ (T2 : ASk) (q2 : ASop), (∀ k : Nat, k < T.nN → ∀ l, (T2.E k).nx l = (T.E k).nx l) → q2.preds = updI q.preds 0 p → q2.succs = updI q.succs 0 v → q2.linked = q.linked → q2.does ≠ 0 → (if stale T2 q2 = true then N + 10 else 0) ≤ (if stale T q = true then N + 10 else 0) := fun T2 q2 hE e1 e2 e3 _ =>
    stale_le fun l hl h => by
      refine ⟨hb, ?_⟩
      unfold staleAt at h ⊢
      simp only [Bool.and_eq_true, decide_eq_true_eq] at h ⊢
      obtain ⟨_, h2, h3⟩ := h
      have hpn : p < T.nN := by
        rcases hp.mem with e | e
        · have := hs.one; omega
        · exact (hs.mem 0 (by omega) p e).2.1
      rw [e1, e2] at h3
      by_cases e : l = 0
      · subst e
        exfalso
        apply h3
        show (T2.E ((if (0 : Nat) = 0 then (p : Int) else q.preds 0)).toNat).nx 0 = (if (0 : Nat) = 0 then v else q.succs 0)
        rw [if_pos rfl, if_pos rfl, Int.toNat_natCast, hE p hpn]; exact hv
      · have f1 : updI q.preds 0 p l = q.preds l := if_neg e
        have f2 : updI q.succs 0 v l = q.succs l := if_neg e
        rw [f1, f2] at h3
        refine ⟨?_, by rw [← e3]; exact h2, ?_⟩
        · unfold seenB
          simp only [Bool.or_eq_true, decide_eq_true_eq]
          right; rw [hl0]; omega
        · obtain ⟨pp, _, g1, _, g3, _⟩ := i.past hb l hl (fun _ => by rw [hl0]; omega)
          rw [g1, Int.toNat_natCast] at h3 ⊢
          rw [hE pp (by
            rcases g3.mem with e | e
            · have := hs.one; omega
            · exact (hs.mem l hl pp e).2.1)] at h3
          exact h3
  have hleft : ∀ (T2 : ASk) (q2 : ASop), q2.begun = true → q2.does = 1 → q2.linked = q.linked → left N T2 C q2 < left N T C q := fun T2 q2 e1 e2 e3 => by
    unfold left
    rw [if_neg (by rw [e1]; simp), if_neg (by omega), if_pos e2, if_neg (by rw [hb]; simp), if_pos hd, e3]
    omega
  have hown0 : q.own = 0 → useQ q = 0 ∧ own01 q = 0 := fun h => ⟨if_neg fun h2 => h2.1 h, if_pos h⟩
  unfold arrS
  dsimp only
  by_cases c1 : (q.kind = 2 ∧ 0 < v) ∨ (q.kind = 1 ∧ isB T.step { q with preds := updI q.preds 0 p, succs := updI q.succs 0 v } v = true)
  · rw [if_pos c1]
    have hown : q.own = 0 := by
      rcases i.own with e | ⟨m, j, e1, e2, e3, e4, e5, e6, e7, e8, _⟩
      · exact e.1
      · rcases c1 with c | c <;> omega
    refine ⟨hs.step, Rest.step _ _ _, ⟨rfl, rfl, rfl⟩, .inl rfl, rfl, ?_, fun u hu e => ?_, .inr ⟨rfl, rfl, .inr ⟨rfl, hk, ?_⟩⟩, .inl ⟨rfl, fun _ _ _ _ => rfl, fun h => by cases h⟩⟩
    · rw [(hown0 hown).1]
      have : useQ (ASop.ends { q with preds := updI q.preds 0 p, succs := updI q.succs 0 v } (T.step.E v.toNat).key (T.step.E v.toNat).ref true 0) = 0 := if_neg fun h => h.1 hown
      rw [this]; rfl
    · have e : (u : Int) = q.own := e
      have := (hs.mem 0 (by omega) u hu).1
      omega
    · rcases c1 with ⟨c2, c3⟩ | ⟨c2, c3⟩
      · obtain ⟨m, m1, m2, m3, m4, m5, m6, m7⟩ := hnx (by omega)
        refine .inl ⟨c2, rfl, m, m1, ?_, ?_, m6, fun u hu h => ?_⟩
        · show (T.E v.toNat).key = _; rw [m3]; rfl
        · show (T.E v.toNat).ref = _; rw [m3]; rfl
        · rcases m7 u (i.made u hu) h with rfl | h9
          · exact kl_irrefl _
          · exact fun h8 => kl_irrefl _ (kl_trans h9 h8)
      · obtain ⟨_, m, m1, m2, m3, m4, m5⟩ := hisv c3
        refine .inr (.inr (.inl ⟨?_, rfl, ?_, m, m1, m5, ?_⟩))
        · show q.kind ≠ 2; omega
        · show (T.E v.toNat).key = q.key; rw [m3]; exact m5
        · show (T.E v.toNat).ref = _; rw [m3]; rfl
  rw [if_neg c1]
  by_cases c2 : q.kind ≠ 0
  · rw [if_pos c2]
    have hown : q.own = 0 := by
      rcases i.own with e | ⟨m, j, e1, e2, e3, e4, e5, e6, e7, e8, _⟩
      · exact e.1
      · exact absurd e8 c2
    refine ⟨hs.step, Rest.step _ _ _, ⟨rfl, rfl, rfl⟩, .inl rfl, rfl, ?_, fun u hu e => ?_, .inr ⟨rfl, rfl, .inr ⟨rfl, hk, ?_⟩⟩, .inl ⟨rfl, fun _ _ _ _ => rfl, fun h => by cases h⟩⟩
    · rw [(hown0 hown).1]
      have : useQ (ASop.ends { q with preds := updI q.preds 0 p, succs := updI q.succs 0 v } ⟨#[]⟩ 0 false 0) = 0 := if_neg fun h => h.1 hown
      rw [this]; rfl
    · have e : (u : Int) = q.own := e
      have := (hs.mem 0 (by omega) u hu).1
      omega
    · rcases i.kind with h | h | h
      · exact absurd h c2
      · refine .inr (.inr (.inr (.inl ⟨h, rfl, rfl, rfl, fun u hu => ?_⟩)))
        refine hnis ?_ (by omega) u (i.made u hu)
        cases e : isB T.step { q with preds := updI q.preds 0 p, succs := updI q.succs 0 v } v
        · rfl
        · exact absurd (.inr ⟨h, e⟩) c1
      · refine .inr (.inl ⟨h, rfl, rfl, rfl, fun u hu => ?_⟩)
        refine hall ?_ u (i.made u hu)
        rcases Decidable.em (v = 0) with h0 | h0
        · exact h0
        · obtain ⟨m, _, m2, _, m4, _⟩ := hnx h0
          exact absurd (.inl ⟨h, by omega⟩) c1
  rw [if_neg c2]
  have hk0 : q.kind = 0 := Decidable.not_not.1 c2
  by_cases c3 : isB T.step { q with preds := updI q.preds 0 p, succs := updI q.succs 0 v } v = true ∧ v ≠ q.own
  · rw [if_pos c3]
    obtain ⟨c3, c4⟩ := c3
    obtain ⟨_, m, m1, m2, m3, m4, m5⟩ := hisv c3
    by_cases c5 : 0 < q.own
    · rw [if_pos c5]
      rcases i.own with e | ⟨n, j, e1, e2, e3, e4, e5, e6, e7, e8, e9, e10, e11⟩
      · omega
      · have en : q.own.toNat = n + 1 := by omega
        have hj : j = 0 := by
          rcases Nat.eq_zero_or_pos j with h | h
          · exact h
          · have := (e11 0 (by omega)).2 h
            have h9 := hs.uniq (by omega) m1 this (m5.trans (show q.key = ky T (n + 1) from e5.symm))
            omega
        have hnC : ∀ l, l < 8 → n + 1 ∉ C l := fun l hl h => by have := (e11 l hl).1 h; omega
        rw [en]
        have eE : ∀ k, k ≠ n + 1 → (T.step.fell (n + 1)).E k = T.E k := fun k hk => if_neg hk
        have eE2 : (T.step.fell (n + 1)).E (n + 1) = { T.E (n + 1) with gone := true } := if_pos rfl
        have eall : ∀ k, ((T.step.fell (n + 1)).E k).key = (T.E k).key ∧ ((T.step.fell (n + 1)).E k).wd = (T.E k).wd ∧ ((T.step.fell (n + 1)).E k).ref = (T.E k).ref ∧ ((T.step.fell (n + 1)).E k).h = (T.E k).h ∧ ((T.step.fell (n + 1)).E k).nx = (T.E k).nx := fun k => by
          by_cases e : k = n + 1
          · subst e; rw [eE2]; exact ⟨rfl, rfl, rfl, rfl, rfl⟩
          · rw [eE k e]; exact ⟨rfl, rfl, rfl, rfl, rfl⟩
        have hR : Rest T (T.step.fell (n + 1)) C C q.own := ⟨Nat.le_refl _, rfl, rfl, fun k _ => ⟨(eall k).1, (eall k).2.1, (eall k).2.2.1, (eall k).2.2.2.1⟩, fun k _ hk => by rw [eE k (by omega)], fun _ _ => List.Sublist.refl _, fun _ _ _ h => .inl h, fun k l _ _ _ _ _ => by rw [(eall k).2.2.2.2]⟩
        have hky : ∀ u, ky (T.step.fell (n + 1)) u = ky T u := fun u => (eall u).1
        refine ⟨⟨hs.one, ?_, fun k hk => by rw [(eall k).2.2.2.1]; exact hs.hts k hk, fun k h1 hk => by rw [(eall k).1, (eall k).2.1]; exact hs.wds k h1 hk, fun l hl => Lk.congr (hs.link l hl) fun k _ => by rw [(eall k).2.2.2.2], fun l hl u hu => ?_, fun l hl => ?_, hs.sub⟩, hR, ⟨rfl, rfl, rfl⟩, .inl rfl, rfl, ?_, fun u hu e => ?_, .inr ⟨rfl, rfl, .inr ⟨rfl, hk, .inr (.inr (.inl ⟨by show q.kind ≠ 2; omega, rfl, rfl, m, m1, ?_, ?_⟩))⟩⟩, .inl ⟨rfl, fun l _ k _ => by rw [(eall k).2.2.2.2], fun h => by cases h⟩⟩
        · rw [eE 0 (by omega)]; exact hs.head
        · rw [eE u (fun e => hnC l hl (e ▸ hu))]; exact hs.mem l hl u hu
        · have := hs.srt l hl
          simp only [hky]; exact this
        · have e8' : useQ (ASop.ends { q with preds := updI q.preds 0 p, succs := updI q.succs 0 v } q.key (T.step.E v.toNat).ref true 0) = 0 := if_neg fun h => by cases h.2
          have e9' : useQ q = q.height.toNat := if_pos ⟨by omega, i.had⟩
          rw [e8', e9']
          show sumH (T.step.fell (n + 1)).E T.nN + q.height.toNat = sumH T.E T.nN + 0
          have : ∀ k, k ≤ T.nN → sumH (T.step.fell (n + 1)).E k + (if n + 1 < k then q.height.toNat else 0) = sumH T.E k := by
            intro k
            induction k with
            | zero => intro _; rw [if_neg (by omega)]; rfl
            | succ k ih =>
              intro hk
              have ih := ih (by omega)
              show sumH (T.step.fell (n + 1)).E k + (if ((T.step.fell (n + 1)).E k).gone = true then 0 else ((T.step.fell (n + 1)).E k).h) + _ = sumH T.E k + (if (T.E k).gone = true then 0 else (T.E k).h)
              by_cases e : k = n + 1
              · subst e
                have a1 : (if n + 1 < n + 1 + 1 then q.height.toNat else 0) = q.height.toNat := if_pos (by omega)
                have a2 : (if n + 1 < n + 1 then q.height.toNat else 0) = 0 := if_neg (by omega)
                have a3 : (if (T.E (n + 1)).gone = true then 0 else (T.E (n + 1)).h) = q.height.toNat := by rw [e4, if_neg (by simp), e7]
                have a4 : (if ((T.step.fell (n + 1)).E (n + 1)).gone = true then 0 else ((T.step.fell (n + 1)).E (n + 1)).h) = 0 := by rw [eE2]; exact if_pos rfl
                rw [a2] at ih
                rw [a1, a3, a4]
                omega
              · rw [eE k e]
                have a1 : (if n + 1 < k + 1 then q.height.toNat else 0) = if n + 1 < k then q.height.toNat else 0 := by
                  by_cases e2 : n + 1 < k
                  · rw [if_pos e2, if_pos (by omega)]
                  · rw [if_neg e2, if_neg (by omega)]
                rw [a1]
                omega
          have := this T.nN (Nat.le_refl _)
          rw [if_pos e3] at this
          omega
        · have e : (u : Int) = q.own := e
          exact absurd (show n + 1 ∈ C 0 by rw [show n + 1 = u by omega]; exact hu) (hnC 0 (by omega))
        · rw [hky]; exact m5
        · show (T.E v.toNat).ref = ((T.step.fell (n + 1)).E m).ref
          rw [(eall m).2.2.1, m3]
    · rw [if_neg c5]
      have hown : q.own = 0 := by rcases i.own with e | ⟨n, j, e1, _⟩ <;> omega
      refine ⟨hs.step, Rest.step _ _ _, ⟨rfl, rfl, rfl⟩, .inl rfl, rfl, ?_, fun u hu e => ?_, .inr ⟨rfl, rfl, .inr ⟨rfl, hk, .inr (.inr (.inl ⟨by show q.kind ≠ 2; omega, rfl, rfl, m, m1, m5, ?_⟩))⟩⟩, .inl ⟨rfl, fun _ _ _ _ => rfl, fun h => by cases h⟩⟩
      · rw [(hown0 hown).1]
        have : useQ (ASop.ends { q with preds := updI q.preds 0 p, succs := updI q.succs 0 v } q.key (T.step.E v.toNat).ref true 0) = 0 := if_neg fun h => h.1 hown
        rw [this]; rfl
      · have e : (u : Int) = q.own := e
        have := (hs.mem 0 (by omega) u hu).1
        omega
      · show (T.E v.toNat).ref = (T.E m).ref; rw [m3]
  rw [if_neg c3]
  -- the key is not in, but by the operation itself
  have hapart : q.linked = 0 → v = 0 ∨ ky T v.toNat ≠ q.key := fun hl => by
    by_cases h0 : v = 0
    · exact .inl h0
    · right
      intro e
      obtain ⟨m, m1, m2, m3, m4, m5, _⟩ := hnx h0
      have his : isB T.step { q with preds := updI q.preds 0 p, succs := updI q.succs 0 v } v = true := by
        cases h : isB T.step { q with preds := updI q.preds 0 p, succs := updI q.succs 0 v } v
        · rw [m3] at e
          exact absurd e (hnis h (by omega) m m1)
        · rfl
      have hvo : v = q.own := Decidable.byContradiction fun h => c3 ⟨his, h⟩
      rcases i.own with e9 | ⟨n, j, e1, e2, e3, e4, e5, e6, e7, e8, e9, e10, e11⟩
      · omega
      · have := (e11 0 (by omega)).1 (show n + 1 ∈ C 0 by rw [show n + 1 = m by omega]; exact m1)
        omega
  by_cases c4 : q.own = 0
  · rw [if_pos c4]
    have hlk : q.linked = 0 := by rcases i.own with e | ⟨n, j, e1, _⟩ <;> omega
    have h8 := i.height
    have eo : ∀ k, k < T.nN → (T.step.add q.key q.wd q.ref q.height.toNat).E k = T.E k := fun k hk => ASk.add_old T.step _ _ _ _ hk
    have en : (T.step.add q.key q.wd q.ref q.height.toNat).E T.nN = ⟨q.key, q.wd, q.ref, q.height.toNat, fun _ => 0, false⟩ := ASk.add_new T.step _ _ _ _
    have hmem : ∀ l, l < 8 → ∀ u ∈ C l, u < T.nN := fun l hl u hu => (hs.mem l hl u hu).2.1
    have hR : Rest T (T.step.add q.key q.wd q.ref q.height.toNat) C C q.own := ⟨Nat.le_succ _, rfl, rfl, fun k hk => by rw [eo k hk]; exact ⟨rfl, rfl, rfl, rfl⟩, fun k hk _ => by rw [eo k hk], fun _ _ => List.Sublist.refl _, fun _ _ _ h => .inl h, fun k l hk _ _ _ _ => by rw [eo k hk]⟩
    have hsk : Skp (T.step.add q.key q.wd q.ref q.height.toNat) C := by
      refine ⟨by show 1 ≤ T.nN + 1; omega, ?_, fun k hk => ?_, fun k h1 hk => ?_, fun l hl => Lk.congr (hs.link l hl) fun k hk => ?_, fun l hl u hu => ?_, fun l hl => ?_, hs.sub⟩
      · rw [eo 0 hs.one]; exact hs.head
      · have hk : k < T.nN + 1 := hk
        by_cases e : k = T.nN
        · subst e; rw [en]; show q.height.toNat ≤ 8; omega
        · rw [eo k (by omega)]; exact hs.hts k (by omega)
      · have hk : k < T.nN + 1 := hk
        by_cases e : k = T.nN
        · subst e; rw [en]; exact ⟨i.word.1 (by omega), i.key hb (by omega)⟩
        · rw [eo k (by omega)]; exact hs.wds k h1 (by omega)
      · rw [eo k (by
          rcases hk with rfl | hk
          · exact hs.one
          · exact hmem l hl k hk)]
      · rw [eo u (hmem l hl u hu)]
        obtain ⟨a1, a2, a3, a4⟩ := hs.mem l hl u hu
        exact ⟨a1, Nat.lt_succ_of_lt a2, a3, a4⟩
      · have := hs.srt l hl
        refine List.Pairwise.imp_of_mem ?_ this
        intro x y hx hy hxy
        show kl ((T.step.add q.key q.wd q.ref q.height.toNat).E x).key ((T.step.add q.key q.wd q.ref q.height.toNat).E y).key
        rw [eo x (hmem l hl x hx), eo y (hmem l hl y hy)]; exact hxy
    have hI := i.rest (q := q) hs hR (.inl c4)
    refine ⟨hsk, hR, ⟨rfl, rfl, rfl⟩, .inr ⟨c4, rfl⟩, ?_, ?_, fun u hu e => i.had, .inl ⟨rfl, ?_, rfl⟩, .inl ⟨rfl, fun l hl k hk => ?_, fun _ => ?_⟩⟩
    · rw [(hown0 c4).2]
      have : own01 { q with preds := updI q.preds 0 p, succs := updI q.succs 0 v, own := (T.step.nN : Int), does := 1 } = 1 := if_neg (by show (T.nN : Int) ≠ 0; have := hs.one; omega)
      rw [this]; rfl
    · rw [(hown0 c4).1]
      have : useQ { q with preds := updI q.preds 0 p, succs := updI q.succs 0 v, own := (T.step.nN : Int), does := 1 } = q.height.toNat := if_pos ⟨by show (T.nN : Int) ≠ 0; have := hs.one; omega, i.had⟩
      rw [this]
      exact ASk.used_add T.step _ _ _ _
    · refine ⟨hI.made, i.kind, i.word, i.key, i.height, i.had, fun h => ?_, .inr ⟨T.nN - 1, 0, ?_, hlk, ?_, ?_, ?_, ?_, ?_, hk0, hb, ?_, fun l hl => ?_⟩, .inr (.inl rfl), fun _ => ?_, fun _ h => ?_, fun _ l hl _ => ?_, fun _ _ => ?_, fun h => ?_⟩
      · rw [show ({ q with preds := updI q.preds 0 p, succs := updI q.succs 0 v, own := (T.step.nN : Int), does := 1 } : ASop).begun = q.begun from rfl, hb] at h; cases h
      · show (T.nN : Int) = ((T.nN - 1 : Nat) : Int) + 1; have := hs.one; omega
      · show T.nN - 1 + 1 < T.nN + 1; have := hs.one; omega
      · rw [show T.nN - 1 + 1 = T.nN by have := hs.one; omega, en]
      · rw [show T.nN - 1 + 1 = T.nN by have := hs.one; omega, en]
      · rw [show T.nN - 1 + 1 = T.nN by have := hs.one; omega, en]
      · rw [show T.nN - 1 + 1 = T.nN by have := hs.one; omega, en]
      · show 0 < q.height.toNat; have := h8.2.2 hk0; omega
      · rw [show T.nN - 1 + 1 = T.nN by have := hs.one; omega]
        exact ⟨fun h => absurd (hmem l hl _ h) (by omega), fun h => by omega⟩
      · show (T.nN : Int) ≠ 0; have := hs.one; omega
      · exact absurd (show (1 : Int) = 0 from h) (by omega)
      · refine Brk.rest hR hs hl ?_
        exact hbrk { q with preds := updI q.preds 0 p, succs := updI q.succs 0 v, own := (T.step.nN : Int), does := 1 } rfl rfl rfl l hl
      · show v = 0 ∨ ky _ v.toNat ≠ q.key
        rcases hapart hlk with h | h
        · exact .inl h
        · by_cases h0 : v = 0
          · exact .inl h0
          · obtain ⟨m, m1, m2, m3, m4, m5, _⟩ := hnx h0
            right
            rw [m3] at h ⊢
            rw [hR.ky m5]; exact h
      · exact absurd (show (1 : Int) = 2 from h) (by omega)
    · rw [eo k (by
        rcases hk with rfl | hk
        · exact hs.one
        · exact hmem l hl k hk)]
    · have a1 := hleft (T.step.add q.key q.wd q.ref q.height.toNat) { q with preds := updI q.preds 0 p, succs := updI q.succs 0 v, own := (T.step.nN : Int), does := 1 } hb rfl rfl
      have a2 := hstale (T.step.add q.key q.wd q.ref q.height.toNat) { q with preds := updI q.preds 0 p, succs := updI q.succs 0 v, own := (T.step.nN : Int), does := 1 } (fun k hk l => by rw [eo k hk]) rfl rfl rfl (by show (1 : Int) ≠ 0; omega)
      exact Nat.add_lt_add_of_lt_of_le a1 a2
  · rw [if_neg c4]
    refine ⟨hs.step, Rest.step _ _ _, ⟨rfl, rfl, rfl⟩, .inl rfl, rfl, rfl, fun u hu e => i.had, .inl ⟨rfl, ?_, rfl⟩, .inl ⟨rfl, fun _ _ _ _ => rfl, fun _ => ?_⟩⟩
    · refine (i.rest hs (Rest.step T C (-1)) (.inr ?_)).upd (q' := { q with preds := updI q.preds 0 p, succs := updI q.succs 0 v, does := 1 }) ⟨rfl, rfl, rfl, rfl, rfl, rfl, rfl, rfl⟩ hb hk (.inr (.inl rfl)) (fun _ => c4) (fun h => absurd (show (1 : Int) = 0 from h) (by omega)) (fun l hl _ => Brk.rest (Rest.step T C (-1)) hs hl (hbrk { q with preds := updI q.preds 0 p, succs := updI q.succs 0 v, does := 1 } rfl rfl rfl l hl)) (fun _ h => hapart h) (fun h => absurd (show (1 : Int) = 2 from h) (by omega))
      rcases i.own with e | ⟨n, j, e1, _⟩ <;> omega
    · exact Nat.add_lt_add_of_lt_of_le (hleft _ { q with preds := updI q.preds 0 p, succs := updI q.succs 0 v, does := 1 } hb rfl rfl) (hstale T.step { q with preds := updI q.preds 0 p, succs := updI q.succs 0 v, does := 1 } (fun _ _ _ => rfl) rfl rfl rfl (by show (1 : Int) ≠ 0; omega))
end Go.Proofs.YtpckpgdkfimapaaDoor
