/- A step of an operation under way, whole: what it comes to. Nothing is claimed of a program here. -/
import Derived.Test.YtpckpgdkfimapaaDoorSkipLaw
namespace Go.Proofs.YtpckpgdkfimapaaDoor
open Go Go.RowKit
set_option linter.unusedVariables false

variable {T T' : ASk} {C C' : Nat → List Nat} {q q' : ASop} {D : List Nat} {own : Int} {N : Nat}

theorem OpI.step (i : OpI T C q D) (hs : Skp T C) : OpI T.step C q D := by
  refine i.rest hs (Rest.step T C (-1)) ?_
  rcases i.own with e | ⟨m, j, e1, _⟩
  · exact .inl e.1
  · right; omega

theorem left_walk (hb : q.begun = true) (hd : q.does = 0) : left N T C q = (N - rank T C q.pred.toNat) + (q.level.toNat + 1) + 2 * (8 - q.linked.toNat) := by
  unfold left; rw [if_neg (by rw [hb]; simp), if_pos hd]
theorem left_lay (hb : q.begun = true) (hd : q.does = 1) : left N T C q = 2 * (8 - q.linked.toNat) := by
  unfold left; rw [if_neg (by rw [hb]; simp), if_neg (by omega), if_pos hd]
theorem left_link (hb : q.begun = true) (hd : q.does = 2) : left N T C q = 2 * (8 - q.linked.toNat) - 1 := by
  unfold left; rw [if_neg (by rw [hb]; simp), if_neg (by omega), if_neg (by omega)]
theorem left_new (hb : q.begun = false) : left N T C q = N + 24 := by
  unfold left; rw [if_pos hb]
theorem stale_top (hd : q.does = 0) (hl : q.level = 7) : stale T q = false := by
  unfold stale
  rw [Bool.and_eq_false_iff]
  right
  rw [List.any_eq_false]
  intro l hl2 h
  rw [List.mem_range] at hl2
  unfold staleAt seenB at h
  simp only [Bool.and_eq_true, Bool.or_eq_true, decide_eq_true_eq] at h
  have h1 := h.1
  omega

theorem walk_law (hs : Skp T C) (i : OpI T C q D) (hb : q.begun = true) (hd : q.does = 0) (hlen : (C 0).length ≤ N) : Res N T C q D (walkS T q) C := by
  obtain ⟨p, l, hp, hl, hl8, hbf⟩ := i.walk hb hd
  have hk : q.kind ≠ 2 → keyB q.key = true := i.key hb
  have i2 := i.step hs
  obtain ⟨v, hv⟩ : ∃ v, (T.E p).nx l = v := ⟨_, rfl⟩
  have hn := hs.next hl8 hbf.mem
  have hv2 : (T.E q.pred.toNat).nx q.level.toNat = v := by rw [hp, hl, Int.toNat_natCast, Int.toNat_natCast]; exact hv
  unfold walkS
  rw [hv2]
  dsimp only
  by_cases c1 : 0 < v ∧ lessB (T.E v.toNat).key q.key = true
  · rw [if_pos c1]
    obtain ⟨m, hm, e, e2, _⟩ : ∃ m ∈ C l, v = (m : Int) ∧ aft (ky T) p m ∧ True := by
      rcases hn with ⟨e, _⟩ | ⟨m, hm, e, e2, _⟩
      · omega
      · exact ⟨m, hm, hv.symm.trans e, e2, trivial⟩
    have hm0 := hs.low hl8 m hm
    have hkm : kl (ky T m) q.key := by
      have := lessB_iff.1 c1.2
      rw [e, Int.toNat_natCast] at this; exact this
    have hlt := rank_lt hs hm0 e2
    have hle := rank_len T C m
    refine ⟨hs.step, Rest.step _ _ _, ⟨rfl, rfl, rfl⟩, .inl rfl, rfl, rfl, fun _ _ _ => i.had, .inl ⟨rfl, ?_, rfl⟩, .inl ⟨rfl, fun _ _ _ _ => rfl, fun _ => ?_⟩⟩
    · exact i2.upd (q' := { q with pred := v }) ⟨rfl, rfl, rfl, rfl, rfl, rfl, rfl, rfl⟩ hb hk (.inl hd) (fun h => absurd hd h) (fun _ => ⟨m, l, e, hl, hl8, .inr ⟨hm, hkm⟩⟩) (fun j hj h => Brk.like (q := q) (q' := { q with pred := v }) (i2.past hb j hj (fun _ => h hd)) rfl rfl rfl) (fun h => absurd hd h) (fun h => absurd (show q.does = 2 from h) (by omega))
    · refine Nat.add_lt_add_of_lt_of_le ?_ (stale_le fun j hj h => ⟨hb, h⟩)
      show left N T.step C { q with pred := v } < left N T C q
      rw [left_walk (q := { q with pred := v }) hb hd, left_walk hb hd]
      show N - rank T C v.toNat + (q.level.toNat + 1) + 2 * (8 - q.linked.toNat) < N - rank T C q.pred.toNat + (q.level.toNat + 1) + 2 * (8 - q.linked.toNat)
      rw [hp, e, Int.toNat_natCast, Int.toNat_natCast]
      omega
  rw [if_neg c1]
  obtain ⟨s, hs1, hs2⟩ : ∃ s : Nat, v = (s : Int) ∧ (s = 0 ∨ (s ∈ C l ∧ ¬ kl (ky T s) q.key)) := by
    rcases hn with ⟨e, _⟩ | ⟨m, hm, e, e2, _⟩
    · exact ⟨0, hv.symm.trans e, .inl rfl⟩
    · have ev := hv.symm.trans e
      refine ⟨m, ev, .inr ⟨hm, fun h => c1 ⟨?_, ?_⟩⟩⟩
      · have := (hs.mem l hl8 m hm).1; omega
      · rw [ev, Int.toNat_natCast]; exact lessB_iff.2 h
  have el : q.level.toNat = l := by omega
  by_cases c2 : 0 < q.level
  · rw [if_pos c2, el]
    refine ⟨hs.step, Rest.step _ _ _, ⟨rfl, rfl, rfl⟩, .inl rfl, rfl, rfl, fun _ _ _ => i.had, .inl ⟨rfl, ?_, rfl⟩, .inl ⟨rfl, fun _ _ _ _ => rfl, fun _ => ?_⟩⟩
    · refine i2.upd (q' := { q with preds := updI q.preds l q.pred, succs := updI q.succs l v, level := q.level - 1 }) ⟨rfl, rfl, rfl, rfl, rfl, rfl, rfl, rfl⟩ hb hk (.inl hd) (fun h => absurd hd h) (fun _ => ⟨p, l - 1, hp, ?_, by omega, ?_⟩) (fun j hj h => ?_) (fun h => absurd hd h) (fun h => absurd (show q.does = 2 from h) (by omega))
      · show q.level - 1 = ((l - 1 : Nat) : Int); omega
      · rcases hbf with h | ⟨h1, h2⟩
        · exact .inl h
        · have := hs.sub (l - 1) (by omega) p (by rw [show l - 1 + 1 = l by omega]; exact h1)
          exact .inr ⟨this, h2⟩
      · have h : q.level - 1 < (j : Int) := h hd
        by_cases e : j = l
        · subst e
          exact ⟨p, s, (if_pos rfl).trans hp, (if_pos rfl).trans hs1, hbf, hs2⟩
        · exact Brk.like (q := q) (q' := { q with preds := updI q.preds l q.pred, succs := updI q.succs l v, level := q.level - 1 }) (i2.past hb j hj (fun _ => by omega)) (if_neg e) (if_neg e) rfl
    · refine Nat.add_lt_add_of_lt_of_le ?_ (stale_le fun j hj h => ⟨hb, ?_⟩)
      · show left N T.step C { q with preds := updI q.preds l q.pred, succs := updI q.succs l v, level := q.level - 1 } < left N T C q
        rw [left_walk (q := { q with preds := updI q.preds l q.pred, succs := updI q.succs l v, level := q.level - 1 }) hb hd, left_walk hb hd]
        show N - rank T C q.pred.toNat + ((q.level - 1).toNat + 1) + 2 * (8 - q.linked.toNat) < N - rank T C q.pred.toNat + (q.level.toNat + 1) + 2 * (8 - q.linked.toNat)
        omega
      · unfold staleAt seenB at h ⊢
        simp only [Bool.and_eq_true, Bool.or_eq_true, decide_eq_true_eq] at h ⊢
        obtain ⟨h1, h2, h3⟩ := h
        have h1 : q.does ≠ 0 ∨ q.level - 1 < (j : Int) := h1
        have h3 : (T.E (updI q.preds l q.pred j).toNat).nx j ≠ updI q.succs l v j := h3
        by_cases e : j = l
        · subst e
          exfalso
          apply h3
          show (T.E (if j = j then q.pred else q.preds j).toNat).nx j = if j = j then v else q.succs j
          rw [if_pos rfl, if_pos rfl, hp, Int.toNat_natCast]; exact hv
        · have f1 : updI q.preds l q.pred j = q.preds j := if_neg e
          have f2 : updI q.succs l v j = q.succs j := if_neg e
          rw [f1, f2] at h3
          refine ⟨.inr (by rcases h1 with h1 | h1 <;> omega), h2, h3⟩
  · rw [if_neg c2]
    obtain rfl : l = 0 := by omega
    have := arr_law hs i hb hd hlen hbf (by omega) hv c1
    rw [← hp] at this
    exact this

/-- What is set, and what is not. -/
theorem nx_set (T : ASk) (a b : Nat) (v : Int) (i k : Nat) : ((T.set (a, b) v).E i).nx k = if i = a ∧ k = b then v else (T.E i).nx k := by
  unfold ASk.set
  dsimp only
  by_cases e : i = a
  · rw [if_pos e]
    dsimp only
    by_cases e2 : k = b
    · rw [if_pos e2, if_pos ⟨e, e2⟩]
    · rw [if_neg e2, if_neg (fun h => e2 h.2)]
  · rw [if_neg e, if_neg (fun h => e h.1)]

theorem lay_law (hs : Skp T C) (i : OpI T C q D) (hb : q.begun = true) (hd : q.does = 1) : Res N T C q D (T.step.set (q.own.toNat, q.linked.toNat) (q.succs q.linked.toNat), { q with does := 2 }, false) C := by
  rcases i.own with e | ⟨m, j, e1, e2, e3, e4, e5, e6, e7, e8, e9, e10, e11⟩
  · exact absurd e.1 (i.busy (by omega))
  have hj : j < 8 := by have := i.height; omega
  have hno : m + 1 ∉ C j := fun h => by have := (e11 j hj).1 h; omega
  rw [show q.own.toNat = m + 1 by omega, show q.linked.toNat = j by omega]
  have hks := fun k => T.step.key_set (m + 1, j) (q.succs j) k
  have hnx := fun k l => nx_set T.step (m + 1) j (q.succs j) k l
  have hky : ∀ u, ky (T.step.set (m + 1, j) (q.succs j)) u = ky T u := fun u => (hks u).1
  have hnC : ∀ k l, l < 8 → (k = 0 ∨ k ∈ C l) → ((T.step.set (m + 1, j) (q.succs j)).E k).nx l = (T.E k).nx l := fun k l hl hk => by
    rw [hnx]
    refine if_neg fun h => ?_
    obtain ⟨rfl, rfl⟩ := h
    rcases hk with h | h
    · omega
    · exact hno h
  have hR : Rest T (T.step.set (m + 1, j) (q.succs j)) C C q.own := ⟨Nat.le_refl _, rfl, rfl, fun k _ => ⟨(hks k).1, (hks k).2.1, (hks k).2.2.1, (hks k).2.2.2.1⟩, fun k _ _ => (hks k).2.2.2.2, fun _ _ => List.Sublist.refl _, fun _ _ _ h => .inl h, fun k l _ _ hk _ _ => by rw [hnx]; exact if_neg fun h => by omega⟩
  have hsk : Skp (T.step.set (m + 1, j) (q.succs j)) C := by
    refine ⟨hs.one, by rw [(hks 0).2.2.2.1, (hks 0).2.2.2.2, (hks 0).2.1]; exact hs.head, fun k hk => by rw [(hks k).2.2.2.1]; exact hs.hts k hk, fun k h1 hk => by rw [(hks k).1, (hks k).2.1]; exact hs.wds k h1 hk, fun l hl => Lk.congr (hs.link l hl) fun k hk => hnC k l hl hk, fun l hl u hu => by rw [(hks u).2.2.2.1, (hks u).2.2.2.2]; exact hs.mem l hl u hu, fun l hl => ?_, hs.sub⟩
    have := hs.srt l hl
    simp only [hky]; exact this
  refine ⟨hsk, hR, ⟨rfl, rfl, rfl⟩, .inl rfl, rfl, ?_, fun _ _ _ => i.had, .inl ⟨rfl, ?_, rfl⟩, .inl ⟨rfl, fun l hl k hk => hnC k l hl hk, fun _ => ?_⟩⟩
  · show (T.step.set (m + 1, j) (q.succs j)).used + useQ q = T.used + useQ q
    rw [ASk.used_set]; rfl
  · refine ⟨i.made, i.kind, i.word, i.key, i.height, i.had, fun h => ?_, .inr ⟨m, j, e1, e2, e3, ?_, ?_, ?_, ?_, e8, hb, e10, e11⟩, .inr (.inr rfl), fun _ => ?_, fun _ h => ?_, fun _ l hl _ => ?_, fun _ h => ?_, fun _ => ?_⟩
    · rw [show ({ q with does := 2 } : ASop).begun = q.begun from rfl, hb] at h; cases h
    · rw [(hks (m + 1)).2.2.2.2]; exact e4
    · rw [(hks (m + 1)).1]; exact e5
    · rw [(hks (m + 1)).2.2.1]; exact e6
    · rw [(hks (m + 1)).2.2.2.1]; exact e7
    · show q.own ≠ 0; omega
    · exact absurd (show (2 : Int) = 0 from h) (by omega)
    · refine Brk.rest hR hs hl ?_
      exact Brk.like (q := q) (q' := { q with does := 2 }) (i.past hb l hl (fun h => by omega)) rfl rfl rfl
    · rcases i.apart (by omega) h with h9 | h9
      · exact .inl h9
      · right; rw [hky]; exact h9
    · show ((T.step.set (m + 1, j) (q.succs j)).E q.own.toNat).nx q.linked.toNat = q.succs q.linked.toNat
      rw [e1, e2, show ((m : Int) + 1).toNat = m + 1 by omega, Int.toNat_natCast, hnx]
      exact if_pos ⟨rfl, rfl⟩
  · refine Nat.add_lt_add_of_lt_of_le ?_ (stale_le fun l hl h => ⟨hb, ?_⟩)
    · show left N (T.step.set (m + 1, j) (q.succs j)) C { q with does := 2 } < left N T C q
      rw [left_link (q := { q with does := 2 }) hb rfl, left_lay hb hd]
      show 2 * (8 - q.linked.toNat) - 1 < 2 * (8 - q.linked.toNat)
      rw [e2, Int.toNat_natCast]; omega
    · unfold staleAt seenB at h ⊢
      simp only [Bool.and_eq_true, Bool.or_eq_true, decide_eq_true_eq] at h ⊢
      obtain ⟨h1, h2, h3⟩ := h
      refine ⟨.inl (by omega), h2, ?_⟩
      obtain ⟨p, s, f1, f2, f3, _⟩ := i.past hb l hl (fun h => by omega)
      have h3 : ((T.step.set (m + 1, j) (q.succs j)).E (q.preds l).toNat).nx l ≠ q.succs l := h3
      rw [f1, Int.toNat_natCast, hnC p l hl f3.mem] at h3
      rw [f1, Int.toNat_natCast]; exact h3

theorem linkNo_law (hs : Skp T C) (i : OpI T C q D) (hb : q.begun = true) (hd : q.does = 2) (hne : (T.E (q.preds q.linked.toNat).toNat).nx q.linked.toNat ≠ q.succs q.linked.toNat) : Res N T C q D (T.step, q.again, false) C := by
  rcases i.own with e | ⟨m, j, e1, e2, e3, e4, e5, e6, e7, e8, e9, e10, e11⟩
  · exact absurd e.1 (i.busy (by omega))
  have hj : j < 8 := by have := i.height; omega
  rw [e2, Int.toNat_natCast] at hne
  refine ⟨hs.step, Rest.step _ _ _, ⟨rfl, rfl, rfl⟩, .inl rfl, rfl, rfl, fun _ _ _ => i.had, .inl ⟨rfl, ?_, rfl⟩, .inl ⟨rfl, fun _ _ _ _ => rfl, fun _ => ?_⟩⟩
  · exact (i.step hs).upd (q' := q.again) ⟨rfl, rfl, rfl, rfl, rfl, rfl, rfl, rfl⟩ hb (i.key hb) (.inl rfl) (fun h => absurd rfl h) (fun _ => ⟨0, 7, rfl, rfl, by omega, .inl rfl⟩) (fun l hl h => by have : (7 : Int) < (l : Int) := h rfl; omega) (fun h => absurd rfl h) (fun h => absurd (show (0 : Int) = 2 from h) (by omega))
  · have s1 : stale T.step q.again = false := stale_top rfl rfl
    have s2 : stale T q = true := by
      unfold stale
      rw [hb, Bool.true_and, List.any_eq_true]
      refine ⟨j, List.mem_range.2 hj, ?_⟩
      unfold staleAt seenB
      simp only [Bool.and_eq_true, Bool.or_eq_true, decide_eq_true_eq]
      exact ⟨.inl (by omega), by omega, hne⟩
    unfold cost
    rw [s1, s2, if_neg (by simp), if_pos rfl]
    rw [left_walk (q := q.again) hb rfl, left_link hb hd]
    show N - rank T C 0 + (7 + 1) + 2 * (8 - q.linked.toNat) + 0 < 2 * (8 - q.linked.toNat) - 1 + (N + 10)
    rw [rank_zero, e2, Int.toNat_natCast]
    omega

theorem linkOk_law (hs : Skp T C) (i : OpI T C q D) (hb : q.begun = true) (hd : q.does = 2) (heq : (T.E (q.preds q.linked.toNat).toNat).nx q.linked.toNat = q.succs q.linked.toNat) :
    ∃ C', Res N T C q D (T.step.set ((q.preds q.linked.toNat).toNat, q.linked.toNat) q.own, (linkQ q q.linked.toNat).1, (linkQ q q.linked.toNat).2) C' := by
  rcases i.own with e | ⟨m, j, e1, e2, e3, e4, e5, e6, e7, e8, e9, e10, e11⟩
  · exact absurd e.1 (i.busy (by omega))
  have hj : j < 8 := by have := i.height; omega
  have hno : m + 1 ∉ C j := fun h => by have := (e11 j hj).1 h; omega
  obtain ⟨p, s, f1, f2, f3, f4⟩ := i.past hb j hj (fun h => by omega)
  have hlaid := i.laid hd
  rw [e1, e2, show ((m : Int) + 1).toNat = m + 1 by omega, Int.toNat_natCast] at hlaid
  rw [e2, Int.toNat_natCast, f1, Int.toNat_natCast] at heq ⊢
  have hkm : ky T (m + 1) = q.key := e5
  have hpm : p ≠ m + 1 := fun h => by
    rcases f3.mem with h2 | h2
    · omega
    · exact hno (h ▸ h2)
  -- no node of the level has the key
  have hs9 : s ≠ 0 → kl q.key (ky T s) := fun h0 => by
    rcases f4 with f4 | ⟨f4, f5⟩
    · exact absurd f4 h0
    · rcases kl_not f5 with h | h
      · exfalso
        by_cases hj0 : j = 0
        · subst hj0
          rcases i.apart (by omega) (by rw [e2]; rfl) with h9 | h9
          · rw [f2] at h9; omega
          · rw [f2, Int.toNat_natCast] at h9; exact h9 h
        · have h9 := hs.uniq (l := 0) (by omega) (hs.low hj s f4) ((e11 0 (by omega)).2 (by omega)) (h.trans hkm.symm)
          rw [h9] at f4; exact hno f4
      · exact h
  have hnk : ∀ u ∈ C j, ky T u ≠ ky T (m + 1) := fun u hu h => by
    rw [hkm] at h
    have haf : aft (ky T) p u := by
      rcases f3 with h2 | ⟨_, h2⟩
      · exact .inl h2
      · rw [← h] at h2; exact .inr h2
    rcases hs.next hj f3.mem with ⟨_, g2⟩ | ⟨x, g1, g2, g3, g4⟩
    · exact g2 u hu haf
    · have hxs : x = s := by rw [heq, f2] at g2; omega
      have hx0 := (hs.mem j hj x g1).1
      have hks := hs9 (by omega)
      rw [← hxs] at hks
      rcases g4 u hu haf with g5 | g5
      · rw [g5] at h; rw [h] at hks; exact kl_irrefl _ hks
      · rw [h] at g5; exact kl_irrefl _ (kl_trans hks g5)
  have hks := fun k => T.step.key_set (p, j) q.own k
  have hnx := fun k l => nx_set T.step p j q.own k l
  have hky : ∀ u, ky (T.step.set (p, j) q.own) u = ky T u := fun u => (hks u).1
  refine ⟨fun l => if l = j then insK (ky T) (m + 1) (C j) else C l, ?_⟩
  have hCj : (fun l => if l = j then insK (ky T) (m + 1) (C j) else C l) j = insK (ky T) (m + 1) (C j) := if_pos rfl
  have hCo : ∀ l, l ≠ j → (fun l => if l = j then insK (ky T) (m + 1) (C j) else C l) l = C l := fun l h => if_neg h
  generalize hC' : (fun l => if l = j then insK (ky T) (m + 1) (C j) else C l) = C' at *
  have hmem : ∀ l v, v ∈ C' l ↔ (v ∈ C l ∨ (l = j ∧ v = m + 1)) := fun l v => by
    by_cases e : l = j
    · subst e
      rw [hCj, mem_insK]
      constructor
      · rintro (h | h)
        · exact .inr ⟨rfl, h⟩
        · exact .inl h
      · rintro (h | h)
        · exact .inr h
        · exact .inl h.2
    · rw [hCo l e]
      exact ⟨.inl, fun h => h.resolve_right fun h => e h.1⟩
  have hmown : ∀ l, l < 8 → (m + 1 ∈ C' l ↔ l < j + 1) := fun l hl => by
    rw [hmem, e11 l hl]
    constructor
    · rintro (h | h) <;> omega
    · intro h
      by_cases e : l = j
      · exact .inr ⟨e, rfl⟩
      · left; omega
  have hR : Rest T (T.step.set (p, j) q.own) C C' q.own := by
    refine ⟨Nat.le_refl _, rfl, rfl, fun k _ => ⟨(hks k).1, (hks k).2.1, (hks k).2.2.1, (hks k).2.2.2.1⟩, fun k _ _ => (hks k).2.2.2.2, fun l hl => ?_, fun l hl v hv => ?_, fun k l _ hk0 _ _ hkC => ?_⟩
    · by_cases e : l = j
      · subst e; rw [hCj]; exact insK_sub
      · rw [hCo l e]; exact List.Sublist.refl _
    · rcases (hmem l v).1 hv with h | ⟨_, h⟩
      · exact .inl h
      · right; rw [h]; exact ⟨by omega, e3⟩
    · rw [hnx]
      refine if_neg fun h => ?_
      obtain ⟨rfl, rfl⟩ := h
      rcases f3.mem with h | h
      · exact hk0 h
      · exact hkC h
  have hsk : Skp (T.step.set (p, j) q.own) C' := by
    refine ⟨hs.one, by rw [(hks 0).2.2.2.1, (hks 0).2.2.2.2, (hks 0).2.1]; exact hs.head, fun k hk => by rw [(hks k).2.2.2.1]; exact hs.hts k hk, fun k h1 hk => by rw [(hks k).1, (hks k).2.1]; exact hs.wds k h1 hk, fun l hl => ?_, fun l hl u hu => ?_, fun l hl => ?_, fun l hl v hv => ?_⟩
    · by_cases e : l = j
      · subst e
        rw [hCj]
        refine Lk.ins (T := T) (p := p) ?_ ?_ ?_ ?_ ?_ (hs.link l hl) (hs.srt0 hl) f3.mem (by omega) hno
        · rw [hnx, if_pos ⟨rfl, rfl⟩, e1]; push_cast; rfl
        · rw [hnx, if_neg (fun h => hpm h.1.symm), heq]; exact hlaid
        · intro k h1 h2
          rw [hnx, if_neg (fun h => h1 h.1)]; rfl
        · rcases f3 with h | ⟨_, h⟩
          · exact .inl h
          · right; rw [hkm]; exact h
        · intro v hv h0
          rw [hkm]
          have : v = s := by rw [heq, f2] at hv; omega
          subst this
          exact hs9 h0
      · rw [hCo l e]
        exact Lk.congr (hs.link l hl) fun k _ => by rw [hnx, if_neg (fun h => e h.2)]; rfl
    · rw [(hks u).2.2.2.1, (hks u).2.2.2.2]
      rcases (hmem l u).1 hu with h | ⟨rfl, rfl⟩
      · exact hs.mem l hl u h
      · exact ⟨by omega, e3, e4, by show l < (T.E (m + 1)).h; omega⟩
    · simp only [hky]
      by_cases e : l = j
      · subst e; rw [hCj]; exact insK_srt (hs.srt l hl) hnk
      · rw [hCo l e]; exact hs.srt l hl
    · rcases (hmem (l + 1) v).1 hv with h | ⟨h, rfl⟩
      · exact (hmem l v).2 (.inl (hs.sub l hl v h))
      · exact (hmem l _).2 (.inl ((e11 l (by omega)).2 (by omega)))
  have hused : (T.step.set (p, j) q.own).used = T.used := by rw [ASk.used_set]; rfl
  have hm0 : m + 1 ∈ C' 0 := (hmown 0 (by omega)).2 (by omega)
  have hlen : ∃ l : Nat, l < 8 ∧ (C' l).length = (C l).length + 1 ∧ ∀ k, k ≠ l → C' k = C k := ⟨j, hj, by rw [hCj, insK_len], hCo⟩
  have hh := i.height
  unfold linkQ
  by_cases c : (j : Int) + 1 = q.height
  · rw [if_pos c]
    refine ⟨hsk, hR, ⟨rfl, rfl, rfl⟩, .inl rfl, rfl, ?_, fun _ _ _ => rfl, .inr ⟨rfl, rfl, .inr ⟨rfl, i.key hb, .inr (.inr (.inr (.inr ⟨e8, rfl, rfl, rfl, m + 1, hm0, ?_, ?_, ?_⟩)))⟩⟩, .inr ⟨hlen, fun h => by cases h⟩⟩
    · have u1 : useQ q = q.height.toNat := if_pos ⟨by omega, i.had⟩
      have u2 : useQ (ASop.ends { q with linked := (j : Int) + 1 } q.key q.ref false 0) = q.height.toNat := if_pos ⟨by show q.own ≠ 0; omega, rfl⟩
      show (T.step.set (p, j) q.own).used + useQ q = T.used + useQ (ASop.ends { q with linked := (j : Int) + 1 } q.key q.ref false 0)
      rw [u1, u2, hused]
    · show q.own = ((m + 1 : Nat) : Int); omega
    · rw [hky]; exact hkm
    · rw [(hks (m + 1)).2.2.1]; exact e6
  · rw [if_neg c]
    refine ⟨hsk, hR, ⟨rfl, rfl, rfl⟩, .inl rfl, rfl, ?_, fun _ _ _ => i.had, .inl ⟨rfl, ?_, rfl⟩, .inr ⟨hlen, fun _ => ?_⟩⟩
    · show (T.step.set (p, j) q.own).used + useQ q = T.used + useQ q
      rw [hused]
    · refine ⟨fun u hu => (hmem 0 u).2 (.inl (i.made u hu)), i.kind, i.word, i.key, i.height, i.had, fun h => ?_, .inr ⟨m, j + 1, e1, ?_, e3, ?_, ?_, ?_, ?_, e8, hb, ?_, hmown⟩, .inr (.inl rfl), fun _ => ?_, fun _ h => ?_, fun _ l hl _ => ?_, fun _ h => ?_, fun h => ?_⟩
      · rw [show ({ q with linked := (j : Int) + 1, does := 1 } : ASop).begun = q.begun from rfl, hb] at h; cases h
      · show (j : Int) + 1 = ((j + 1 : Nat) : Int); omega
      · rw [(hks (m + 1)).2.2.2.2]; exact e4
      · rw [(hks (m + 1)).1]; exact e5
      · rw [(hks (m + 1)).2.2.1]; exact e6
      · rw [(hks (m + 1)).2.2.2.1]; exact e7
      · show j + 1 < q.height.toNat; omega
      · show q.own ≠ 0; omega
      · exact absurd (show (1 : Int) = 0 from h) (by omega)
      · refine Brk.rest hR hs hl ?_
        exact (i.past hb l hl (fun h => by omega)).like rfl rfl rfl
      · have : (j : Int) + 1 = 0 := h
        omega
      · exact absurd (show (1 : Int) = 2 from h) (by omega)
    · show left N (T.step.set (p, j) q.own) C' { q with linked := (j : Int) + 1, does := 1 } ≤ left N T C q
      rw [left_lay (q := { q with linked := (j : Int) + 1, does := 1 }) hb rfl, left_link hb hd]
      show 2 * (8 - ((j : Int) + 1).toNat) ≤ 2 * (8 - q.linked.toNat) - 1
      rw [e2, Int.toNat_natCast]; omega

/-- A step of an operation under way. -/
theorem step_law (hs : Skp T C) (i : OpI T C q D) (hlen : (C 0).length ≤ N) : ∃ C', Res N T C q D (stepS T q) C' := by
  have h3 : q.does ≠ 3 := by have := i.does; omega
  unfold stepS
  rw [if_neg h3]
  rcases Bool.eq_false_or_eq_true q.begun with hb | hb
  case inr =>
    obtain ⟨hd, ho, hl⟩ := i.fresh hb
    rw [if_pos hb]
    by_cases hbad : q.kind ≠ 2 ∧ keyB q.key = false
    · rw [if_pos hbad]
      refine ⟨C, hs, Rest.refl _ _ _, ⟨rfl, rfl, rfl⟩, .inl rfl, rfl, ?_, fun v hv e => rfl, .inr ⟨rfl, rfl, .inl ⟨hbad.1, hbad.2, rfl, rfl, rfl, ho⟩⟩, .inl ⟨rfl, fun _ _ _ _ => rfl, fun h => by cases h⟩⟩
      have u1 : useQ q = 0 := if_neg fun h => h.1 ho
      have u2 : useQ (ASop.ends { q with begun := true } ⟨#[]⟩ 0 false 100) = 0 := if_neg fun h => h.1 ho
      rw [u1, u2]
    · rw [if_neg hbad]
      have hk : q.kind ≠ 2 → keyB q.key = true := fun h => by
        cases e : keyB q.key
        · exact absurd ⟨h, e⟩ hbad
        · rfl
      have i2 : OpI T C ({ q with begun := true }.again) D := i.upd (q' := { q with begun := true }.again) ⟨rfl, rfl, rfl, rfl, rfl, rfl, rfl, rfl⟩ rfl hk (.inl rfl) (fun h => absurd rfl h) (fun _ => ⟨0, 7, rfl, rfl, by omega, .inl rfl⟩) (fun l hl h => by have : (7 : Int) < (l : Int) := h rfl; omega) (fun h => absurd rfl h) (fun h => absurd (show (0 : Int) = 2 from h) (by omega))
      have hL : left N T C ({ q with begun := true }.again) = left N T C q := by
        rw [left_walk (N := N) (T := T) (C := C) (q := ASop.again { q with begun := true }) rfl rfl, left_new hb]
        show N - rank T C 0 + (7 + 1) + 2 * (8 - q.linked.toNat) = N + 24
        rw [rank_zero, hl]
        show N - 0 + (7 + 1) + 2 * (8 - 0) = N + 24
        omega
      have hS : stale T ({ q with begun := true }.again) = false := stale_top rfl rfl
      have hc : cost N T C ({ q with begun := true }.again) ≤ cost N T C q := by
        unfold cost
        rw [hL, hS, if_neg (by simp)]
        omega
      obtain ⟨r1, r2, r3, r4, r5, r6, r7, r8, r9⟩ := walk_law (N := N) hs i2 rfl rfl hlen
      refine ⟨C, r1, r2, r3, r4, r5, r6, r7, r8, ?_⟩
      rcases r9 with ⟨a1, a2, a3⟩ | ⟨a1, a2⟩
      · exact .inl ⟨a1, a2, fun h => Nat.lt_of_lt_of_le (a3 h) hc⟩
      · exact .inr ⟨a1, fun h => by rw [← hL]; exact a2 h⟩
  case inl =>
    rw [if_neg (by rw [hb]; simp)]
    rcases i.does with hd | hd | hd
    · rw [if_pos hd]
      exact ⟨C, walk_law hs i hb hd hlen⟩
    · rw [if_neg (by omega), if_pos hd]
      exact ⟨C, lay_law hs i hb hd⟩
    · rw [if_neg (by omega), if_neg (by omega)]
      by_cases c : (T.E (q.preds q.linked.toNat).toNat).nx q.linked.toNat = q.succs q.linked.toNat
      · rw [if_pos c]; exact linkOk_law hs i hb hd c
      · rw [if_neg c]; exact ⟨C, linkNo_law hs i hb hd c⟩
end Go.Proofs.YtpckpgdkfimapaaDoor
