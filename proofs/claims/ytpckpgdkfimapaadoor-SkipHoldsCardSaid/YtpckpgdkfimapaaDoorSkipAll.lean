/- A step of an operation, whole, and what it asks. -/
import Derived.Test.YtpckpgdkfimapaaDoorSkipJoin
namespace Go.Proofs.YtpckpgdkfimapaaDoor
open Go Go.RowKit
set_option linter.unusedVariables false

variable {o : List Nat} {w0 w : World} {b : Nat} {x : SkIx} {T : ASk} {ob : Nat} {q : ASop}

/-- What a step comes to. -/
def stepS (T : ASk) (q : ASop) : ASk × ASop × Bool :=
  if q.does = 3 then (T, q, true)
  else if q.begun = false then
    if q.kind ≠ 2 ∧ keyB q.key = false then (T, { q with begun := true }.ends ⟨#[]⟩ 0 false 100, true) else walkS T { q with begun := true }.again
  else if q.does = 0 then walkS T q
  else if q.does = 1 then (T.step.set (q.own.toNat, q.linked.toNat) (q.succs q.linked.toNat), { q with does := 2 }, false)
  else if (T.E (q.preds q.linked.toNat).toNat).nx q.linked.toNat = q.succs q.linked.toNat then
    (T.step.set ((q.preds q.linked.toNat).toNat, q.linked.toNat) q.own, (linkQ q q.linked.toNat).1, (linkQ q q.linked.toNat).2)
  else (T.step, q.again, false)

/-- What holds of an operation whose step is to be shown. -/
structure SkOk (T : ASk) (q : ASop) : Prop where
  kind : q.kind = 0 ∨ q.kind = 1 ∨ q.kind = 2
  words : ∀ i, i < T.nN → (T.E i).wd.size ≤ 16
  heights : ∀ i, i < T.nN → (T.E i).h ≤ 8
  word : q.begun = true ∨ q.kind = 2 ∨ keyB q.key = true → q.wd.size ≤ 16
  height : 0 ≤ q.height ∧ q.height ≤ 8
  small : T.nN ≤ 65536
  fits : T.used + q.height.toNat ≤ T.size
  own : q.own = 0 ∨ ∃ i : Nat, q.own = (i : Int) + 1 ∧ i + 1 < T.nN ∧ (T.E (i + 1)).gone = false
  does : q.does = 0 ∨ q.does = 1 ∨ q.does = 2 ∨ q.does = 3
  first : q.begun = false → q.does = 0 ∧ ∃ v, T.at_ (0, 7) = some v ∧ 0 ≤ v
  walks : q.begun = true → q.does = 0 → ∃ (p l : Nat) (v : Int), q.pred = (p : Int) ∧ q.level = (l : Int) ∧ l < 8 ∧ T.at_ (p, l) = some v ∧ 0 ≤ v
  lays : q.begun = true → q.does = 1 → ∃ (m l : Nat) (u : Int), q.own = (m : Int) + 1 ∧ q.linked = (l : Int) ∧ l < 8 ∧ T.at_ (m + 1, l) = some u ∧ 0 ≤ q.succs l ∧ q.succs l < T.nN
  links : q.begun = true → q.does = 2 → ∃ (p l : Nat) (u : Int), q.linked = (l : Int) ∧ l < 8 ∧ q.preds l = (p : Int) ∧ T.at_ (p, l) = some u ∧ 0 ≤ q.succs l ∧ q.succs l < T.nN ∧ 0 ≤ q.own ∧ q.own < T.nN

theorem step_all (h : Has o w0 w (SkOp b x T ob q)) (hr : SkRep x.S x.C T) (k : SkOk T q) (hT : TabAt w0) (ho : 0 ∉ o) :
    Calls Tryd.prog 21 #[.pointer (some ⟨ob, 0, none⟩)] w fun e w' => e = .returned (.bool (stepS T q).2.2) ∧ ∃ x', SkRep x'.S x'.C (stepS T q).1 ∧ Has o w0 w' (SkOp b x' (stepS T q).1 ob (stepS T q).2.1) := by
  have hN9 : (T.nN : Int) < 18446744073709551616 := by have := k.small; omega
  have hown : q.own = 0 ∨ ∃ i : Nat, q.own = (i : Int) + 1 ∧ i + 1 < T.nN ∧ (T.E (i + 1)).gone = false ∧ (T.E (i + 1)).h ≤ 8 := by
    rcases k.own with h | ⟨i, h1, h2, h3⟩
    · exact .inl h
    · exact .inr ⟨i, h1, h2, h3, k.heights _ h2⟩
  by_cases h3 : q.does = 3
  · have e : stepS T q = (T, q, true) := if_pos h3
    rw [e]
    refine (step_over h h3).mono ?_
    rintro e w' ⟨rfl, rfl⟩
    exact ⟨rfl, x, hr, h⟩
  cases hb : q.begun with
  | false =>
    obtain ⟨hd, v, hv, hv0⟩ := k.first hb
    by_cases hbad : q.kind ≠ 2 ∧ keyB q.key = false
    · have e : stepS T q = (T, { q with begun := true }.ends ⟨#[]⟩ 0 false 100, true) := by
        unfold stepS; rw [if_neg h3, if_pos hb, if_pos hbad]
      rw [e]
      refine (step_bad h hb hd (by rcases k.kind with h | h | h
                                   · exact .inl h
                                   · exact .inr h
                                   · exact absurd h hbad.1) hbad.2).mono ?_
      rintro e w' ⟨rfl, h'⟩
      exact ⟨rfl, x, hr, h'⟩
    · have e : stepS T q = walkS T { q with begun := true }.again := by
        unfold stepS; rw [if_neg h3, if_pos hb, if_neg hbad]
      rw [e]
      have hwd : q.wd.size ≤ 16 := k.word (by
        by_cases h2 : q.kind = 2
        · exact .inr (.inl h2)
        · right; right
          cases e : keyB q.key
          · exact absurd ⟨h2, e⟩ hbad
          · rfl)
      have hW : ∀ W, Has o w0 W (SkOp b x T ob { q with begun := true }.again) → Calls Tryd.prog 37 #[.pointer (some ⟨ob, 0, none⟩)] W fun e w' => ∃ r, e = .returned (.bool r) ∧ (r = (walkS T { q with begun := true }.again).2.2 ∧ ∃ x', SkRep x'.S x'.C (walkS T { q with begun := true }.again).1 ∧ Has o w0 w' (SkOp b x' (walkS T { q with begun := true }.again).1 ob (walkS T { q with begun := true }.again).2.1)) := fun W hW => by
        refine (walk_all hW hr 0 7 rfl rfl (by omega) v hv hv0 k.kind k.words hwd hown k.height.1 k.height.2 k.small k.fits hT ho).mono ?_
        rintro e w' ⟨rfl, h'⟩
        exact ⟨_, rfl, rfl, h'⟩
      by_cases h2 : q.kind = 2
      · refine (step_first2 h hb hd h2 hW).mono ?_
        rintro e w' ⟨r, rfl, rfl, h'⟩
        exact ⟨rfl, h'⟩
      · refine (step_first h hb hd (by rcases k.kind with h | h | h
                                       · exact .inl h
                                       · exact .inr h
                                       · exact absurd h h2) (by
          cases e : keyB q.key
          · exact absurd ⟨h2, e⟩ hbad
          · rfl) hW).mono ?_
        rintro e w' ⟨r, rfl, rfl, h'⟩
        exact ⟨rfl, h'⟩
  | true =>
    have hwd : q.wd.size ≤ 16 := k.word (.inl hb)
    rcases k.does with hd | hd | hd | hd
    · obtain ⟨p, l, v, hp, hl, hl8, hv, hv0⟩ := k.walks hb hd
      have e : stepS T q = walkS T q := by
        unfold stepS; rw [if_neg h3, if_neg (by rw [hb]; simp), if_pos hd]
      rw [e]
      refine (step_on (F := fun r w' => r = (walkS T q).2.2 ∧ ∃ x', SkRep x'.S x'.C (walkS T q).1 ∧ Has o w0 w' (SkOp b x' (walkS T q).1 ob (walkS T q).2.1)) h hb hd fun W hW => ?_).mono ?_
      · refine (walk_all hW hr p l hp hl hl8 v hv hv0 k.kind k.words hwd hown k.height.1 k.height.2 k.small k.fits hT ho).mono ?_
        rintro e w' ⟨rfl, h'⟩
        exact ⟨_, rfl, rfl, h'⟩
      · rintro e w' ⟨r, rfl, rfl, h'⟩
        exact ⟨rfl, h'⟩
    · obtain ⟨m, l, u, ho1, hl, hl8, hat, hs0, hs1⟩ := k.lays hb hd
      have e : stepS T q = (T.step.set (m + 1, l) (q.succs l), { q with does := 2 }, false) := by
        unfold stepS
        rw [if_neg h3, if_neg (by rw [hb]; simp), if_neg (by omega), if_pos hd, ho1, hl, show ((m : Int) + 1).toNat = m + 1 by omega, show ((l : Int)).toNat = l by omega]
      rw [e]
      refine (step_lay (F := fun r w' => r = false ∧ Has o w0 w' (SkOp b { x with S := x.S.step.put (x.C (m + 1) l) (q.succs l) } (T.step.set (m + 1, l) (q.succs l)) ob { q with does := 2 })) h hb hd fun W hW => ?_).mono ?_
      · refine (lay_walk hW hr m l u _ ho1 hl hl8 hat rfl hs0 hs1 k.small).mono ?_
        rintro e w' ⟨rfl, h'⟩
        exact ⟨_, rfl, rfl, h'⟩
      · rintro e w' ⟨r, rfl, rfl, h'⟩
        exact ⟨rfl, _, hr.step.put (l := (m + 1, l)) (u := u) hat hs0 hs1 hN9, h'⟩
    · obtain ⟨p, l, u, hl, hl8, hp, hat, hs0, hs1, ho0, ho1⟩ := k.links hb hd
      have ev := at_val hat
      have et : ((l : Int)).toNat = l := by omega
      have ep : ((p : Int)).toNat = p := by omega
      by_cases heq : u = q.succs l
      · have e : stepS T q = (T.step.set (p, l) q.own, (linkQ q l).1, (linkQ q l).2) := by
          unfold stepS
          rw [if_neg h3, if_neg (by rw [hb]; simp), if_neg (by omega), if_neg (by omega), hl, et, hp, ep, ev, if_pos heq]
        rw [e]
        refine (step_link (F := fun r w' => r = (linkQ q l).2 ∧ Has o w0 w' (SkOp b { x with S := x.S.step.put (x.C p l) q.own } (T.step.set (p, l) q.own) ob (linkQ q l).1)) h hb hd fun W hW => ?_).mono ?_
        · refine (link_ok hW hr p l q.own u (q.succs l) rfl ho0 ho1 hl hl8 hp hat rfl hs0 hs1 k.small heq).mono ?_
          rintro e w' ⟨rfl, h'⟩
          exact ⟨_, rfl, rfl, h'⟩
        · rintro e w' ⟨r, rfl, rfl, h'⟩
          exact ⟨rfl, _, hr.step.put (l := (p, l)) (u := u) hat ho0 ho1 hN9, h'⟩
      · have e : stepS T q = (T.step, q.again, false) := by
          unfold stepS
          rw [if_neg h3, if_neg (by rw [hb]; simp), if_neg (by omega), if_neg (by omega), hl, et, hp, ep, ev, if_neg heq]
        rw [e]
        refine (step_link (F := fun r w' => r = false ∧ Has o w0 w' (SkOp b { x with S := x.S.step } T.step ob q.again)) h hb hd fun W hW => ?_).mono ?_
        · refine (link_not hW hr p l q.own u (q.succs l) rfl ho0 ho1 hl hl8 hp hat rfl hs0 hs1 k.small heq).mono ?_
          rintro e w' ⟨rfl, h'⟩
          exact ⟨_, rfl, rfl, h'⟩
        · rintro e w' ⟨r, rfl, rfl, h'⟩
          exact ⟨rfl, _, hr.step, h'⟩
    · exact absurd hd h3
end Go.Proofs.YtpckpgdkfimapaaDoor
