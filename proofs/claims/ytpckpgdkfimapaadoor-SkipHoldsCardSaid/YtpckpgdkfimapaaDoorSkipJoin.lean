/- A whole step, joined: what arrived may lean on; the walk's three ways. -/
import Derived.Test.YtpckpgdkfimapaaDoorSkipNew
import Derived.Test.YtpckpgdkfimapaaDoorSkipArr
namespace Go.Proofs.YtpckpgdkfimapaaDoor
open Go Go.RowKit
set_option linter.unusedVariables false

variable {o : List Nat} {w0 w : World} {b : Nat} {x : SkIx} {T : ASk} {ob : Nat} {q : ASop}

theorem growAt (hr : SkRep x.S x.C T) (h8 : q.height.toNat ≤ 8) (hfit : T.used + q.height.toNat ≤ T.size) (hT : TabAt w0) (ho : 0 ∉ o) : GrowAt o w0 b x T ob q := by
  intro _ _ W nb h
  have hTW : TabAt W := hT.kept h.keeps ho
  obtain ⟨o1, h2, p1, _, b1⟩ := (Has.weaken h (imp_swap3 _ _ _)).left
  refine (grow_walk h2 hr h8 hfit hTW (tab_out hT ho p1)).mono ?_
  rintro e w' ⟨rfl, S, c, hr', h'⟩
  exact ⟨rfl, S, c, hr', Has.weaken (b1 _ _ h') (imp_swap3 _ _ _)⟩
theorem fellAt (hr : SkRep x.S x.C T) (hown : ∀ i : Nat, q.own = (i : Int) → 0 < i → i < T.nN ∧ (T.E i).gone = false ∧ (T.E i).h ≤ 8) : FellAt o w0 b x T ob q := by
  intro _ h0 W h
  obtain ⟨i, hi⟩ : ∃ i : Nat, q.own = (i : Int) := ⟨q.own.toNat, by omega⟩
  obtain ⟨hn, hg, h8⟩ := hown i hi (by omega)
  have e : q.own.toNat = i := by omega
  rw [e]
  obtain ⟨o1, h1, _, b1⟩ := so_list h
  refine (fell_walk h1 hr hn hg h8).mono ?_
  rintro e w' ⟨rfl, S, hr', h'⟩
  exact ⟨rfl, S, hr', b1 _ _ _ h'⟩

/-- What a step of the walk comes to. -/
def walkS (T : ASk) (q : ASop) : ASk × ASop × Bool :=
  let v := (T.E q.pred.toNat).nx q.level.toNat
  if 0 < v ∧ lessB (T.E v.toNat).key q.key = true then (T.step, { q with pred := v }, false)
  else if 0 < q.level then (T.step, { q with preds := updI q.preds q.level.toNat q.pred, succs := updI q.succs q.level.toNat v, level := q.level - 1 }, false)
  else arrS T.step { q with preds := updI q.preds 0 q.pred, succs := updI q.succs 0 v } v

theorem at_val {i l : Nat} {v : Int} (h : T.at_ (i, l) = some v) : (T.E i).nx l = v := by
  unfold ASk.at_ at h
  split at h
  · exact Option.some.inj h
  · cases h

/-- The walk, whole. -/
theorem walk_all (h : Has o w0 w (SkOp b x T ob q)) (hr : SkRep x.S x.C T) (p l : Nat) (hp : q.pred = (p : Int)) (hl : q.level = (l : Int)) (hl8 : l < 8) (v : Int) (hv : T.at_ (p, l) = some v) (hv0 : 0 ≤ v)
    (hk : q.kind = 0 ∨ q.kind = 1 ∨ q.kind = 2) (hs : ∀ i, i < T.nN → (T.E i).wd.size ≤ 16) (hs2 : q.wd.size ≤ 16) (hown : q.own = 0 ∨ ∃ i : Nat, q.own = (i : Int) + 1 ∧ i + 1 < T.nN ∧ (T.E (i + 1)).gone = false ∧ (T.E (i + 1)).h ≤ 8)
    (hh : 0 ≤ q.height) (hh8 : q.height ≤ 8) (hN : T.nN ≤ 65536) (hfit : T.used + q.height.toNat ≤ T.size) (hT : TabAt w0) (ho : 0 ∉ o) :
    Calls Tryd.prog 37 #[.pointer (some ⟨ob, 0, none⟩)] w fun e w' => e = .returned (.bool (walkS T q).2.2) ∧ ∃ x', SkRep x'.S x'.C (walkS T q).1 ∧ Has o w0 w' (SkOp b x' (walkS T q).1 ob (walkS T q).2.1) := by
  have hsm := hr.small _ _ hv
  have e1 : (T.E q.pred.toNat).nx q.level.toNat = v := by rw [hp, hl]; exact at_val hv
  by_cases hlt : 0 < v ∧ lessB (T.E v.toNat).key q.key = true
  · have e : walkS T q = (T.step, { q with pred := v }, false) := by unfold walkS; rw [e1]; exact if_pos hlt
    obtain ⟨m, rfl⟩ : ∃ m : Nat, v = (m : Int) + 1 := ⟨v.toNat - 1, by omega⟩
    rw [e]
    refine (walk_on h hr p l m hp hl hl8 hv (by have := hlt.2; rwa [show ((m : Int) + 1).toNat = m + 1 by omega] at this)).mono ?_
    rintro e w' ⟨rfl, h'⟩
    exact ⟨rfl, _, hr.step, h'⟩
  · have hs' : v = 0 ∨ ∃ m : Nat, v = (m : Int) + 1 ∧ lessB (T.E (m + 1)).key q.key = false := by
      by_cases h0 : 0 < v
      · right
        refine ⟨v.toNat - 1, by omega, ?_⟩
        have : v.toNat - 1 + 1 = v.toNat := by omega
        rw [this]
        cases e : lessB (T.E v.toNat).key q.key
        · rfl
        · exact absurd ⟨h0, e⟩ hlt
      · left; omega
    cases l with
    | succ l =>
      have e : walkS T q = (T.step, { q with preds := updI q.preds (l + 1) p, succs := updI q.succs (l + 1) v, level := l }, false) := by
        unfold walkS
        rw [e1]
        refine (if_neg hlt).trans ((if_pos (by omega)).trans ?_)
        rw [hl, hp, show (((l + 1 : Nat) : Int)).toNat = l + 1 by omega, show (((l + 1 : Nat) : Int) - 1) = (l : Int) by omega]
      rw [e]
      refine (walk_down h hr p l v hp (by rw [hl]; omega) hl8 hv hs').mono ?_
      rintro e w' ⟨rfl, h'⟩
      exact ⟨rfl, _, hr.step, h'⟩
    | zero =>
      have e : walkS T q = arrS T.step { q with preds := updI q.preds 0 p, succs := updI q.succs 0 v } v := by
        unfold walkS
        rw [e1]
        refine (if_neg hlt).trans ((if_neg (by omega)).trans ?_)
        rw [hp]
      rw [e]
      generalize hq2 : ({ q with preds := updI q.preds 0 (p : Int), succs := updI q.succs 0 v } : ASop) = q2
      have hown2 : q2.own = q.own := by rw [← hq2]
      have hkind2 : q2.kind = q.kind := by rw [← hq2]
      have hwd2 : q2.wd = q.wd := by rw [← hq2]
      have hht2 : q2.height = q.height := by rw [← hq2]
      have hr2 : SkRep ({ x with S := x.S.step } : SkIx).S ({ x with S := x.S.step } : SkIx).C T.step := hr.step
      have hA : ∀ W, Has o w0 W (SkOp b { x with S := x.S.step } T.step ob q2) → Calls Tryd.prog 44 #[.pointer (some ⟨ob, 0, none⟩), .int .i64 v] W fun e w' => e = .returned (.bool (arrS T.step q2 v).2.2) ∧ ∃ x', SkRep x'.S x'.C (arrS T.step q2 v).1 ∧ Has o w0 w' (SkOp b x' (arrS T.step q2 v).1 ob (arrS T.step q2 v).2.1) := fun W hW =>
        arr_walk hW hr2 v (by
          rcases hs' with h0 | ⟨m, hm, _⟩
          · exact .inl h0
          · exact .inr ⟨m, hm, by show m + 1 < T.nN; omega, hs (m + 1) (by omega)⟩) (by rw [hkind2]; exact hk) (by rw [hwd2]; exact hs2)
          (by rw [hown2]; rcases hown with h | ⟨i, h1, h2, _⟩
              · exact .inl h
              · exact .inr ⟨i, h1, h2⟩) (by rw [hht2]; exact hh) hN
          (growAt hr2 (by rw [hht2]; omega) (by rw [hht2]; exact hfit) hT ho)
          (fellAt hr2 (by
            intro i hi h0
            rw [hown2] at hi
            rcases hown with h | ⟨j, h1, h2, h3, h4⟩
            · omega
            · obtain rfl : i = j + 1 := by omega
              exact ⟨h2, h3, h4⟩))
      refine (walk_end (F := fun r w' => r = (arrS T.step q2 v).2.2 ∧ ∃ x', SkRep x'.S x'.C (arrS T.step q2 v).1 ∧ Has o w0 w' (SkOp b x' (arrS T.step q2 v).1 ob (arrS T.step q2 v).2.1)) h hr p v hp (by rw [hl]; rfl) hv hs' ?_).mono ?_
      · intro W hW
        rw [hq2] at hW
        refine (hA W hW).mono ?_
        rintro e w' ⟨rfl, h'⟩
        exact ⟨_, rfl, rfl, h'⟩
      · rintro e w' ⟨r, rfl, rfl, h'⟩
        exact ⟨rfl, h'⟩
end Go.Proofs.YtpckpgdkfimapaaDoor
