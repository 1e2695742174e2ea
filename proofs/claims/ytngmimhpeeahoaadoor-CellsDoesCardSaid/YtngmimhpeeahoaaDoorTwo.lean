/- An arena and the reference's arena side by side: the same state, in blocks of their own. -/
import Derived.Test.YtngmimhpeeahoaaDoorDo
import Derived.Test.YtngmimhpeeahoaaDoorRefOps
namespace Go.Proofs.YtngmimhpeeahoaaDoor
open Go Go.RowKit
set_option linter.unusedVariables false

/-- Since w0 nothing of w0 but the blocks of o has changed; an arena lies at b, the reference's at r, in o or made since then. -/
def TwoF (o : List Nat) (w0 w : World) (b r : Nat) (S R : Ar) : Prop :=
  ∃ fp1 fp2, ArenaAt w b fp1 S ∧ RefAt w r fp2 R ∧ (∀ x ∈ fp1, x ∉ fp2) ∧ (∀ x ∈ fp1, x ∈ o ∨ w0.heap.size ≤ x) ∧ (∀ x ∈ fp2, x ∈ o ∨ w0.heap.size ≤ x) ∧ Kept o w0 w
abbrev Two (w0 w : World) (b r : Nat) (S R : Ar) : Prop := TwoF [] w0 w b r S R

theorem TwoF.kept {o w0 w b r S R} (h : TwoF o w0 w b r S R) : Kept o w0 w := by
  obtain ⟨fp1, fp2, _, _, _, _, _, k⟩ := h
  exact k

theorem TwoF.alloc {o w0 w b r S R} (h : TwoF o w0 w b r S R) (ob : Obj) : TwoF o w0 (w.alloc ob) b r S R := by
  obtain ⟨fp1, fp2, hA, hR, hd, h1, h2, k⟩ := h
  exact ⟨fp1, fp2, hA.kept ((Kept.refl [] w).alloc ob) (by simp), hR.kept ((Kept.refl [] w).alloc ob) (by simp), hd, h1, h2, k.alloc ob⟩

/-- Into a call that lays a block of its own, and back out of it. -/
theorem two_enter {o w0 w b r} {S R : Ar} (h : TwoF o w0 w b r S R) (hT : TabAt w0) (ho : 0 ∉ o) :
    ∃ o', (∀ ob, TwoF o' (w.alloc ob) (w.alloc ob) b r S R) ∧ w.heap.size ∉ o' ∧ 0 ∉ o' ∧ TabAt w ∧ ∀ ob w' S' R', TwoF o' (w.alloc ob) w' b r S' R' → TwoF o w0 w' b r S' R' := by
  obtain ⟨fp1, fp2, hA, hR, hd, h1, h2, k⟩ := h
  refine ⟨fp1 ++ fp2, fun ob => ⟨fp1, fp2, hA.kept ((Kept.refl [] w).alloc ob) (by simp), hR.kept ((Kept.refl [] w).alloc ob) (by simp), hd, fun x hx => .inl (by simp [hx]), fun x hx => .inl (by simp [hx]), Kept.refl _ _⟩, ?_, ?_, hT.kept k ho, ?_⟩
  · intro hx
    rcases List.mem_append.1 hx with hx | hx
    · have := hA.fp_lt _ hx; omega
    · have := hR.fp_lt _ hx; omega
  · intro hx
    have := hT.pos
    rcases List.mem_append.1 hx with hx | hx
    · rcases h1 _ hx with h | h
      · exact ho h
      · omega
    · rcases h2 _ hx with h | h
      · exact ho h
      · omega
  · rintro ob w' S' R' ⟨fp1', fp2', hA', hR', hd', h1', h2', k'⟩
    have hin : ∀ x, x ∈ fp1 ++ fp2 → x ∈ o ∨ w0.heap.size ≤ x := fun x hx => (List.mem_append.1 hx).elim (h1 x) (h2 x)
    have hsz : w0.heap.size ≤ (w.alloc ob).heap.size := by have := k.size; simp; omega
    refine ⟨fp1', fp2', hA', hR', hd', ?_, ?_, (k.alloc ob).trans k' fun j hj m => (hin j m).resolve_right (by omega)⟩
    · intro x hx
      rcases h1' x hx with h | h
      · exact hin x h
      · right; omega
    · intro x hx
      rcases h2' x hx with h | h
      · exact hin x h
      · right; omega

theorem two_left {o w0 w w' b r} {S' R : Ar} {fp1 fp2 : List Nat} (hR : RefAt w r fp2 R) (hd : ∀ x ∈ fp1, x ∉ fp2) (h1 : ∀ x ∈ fp1, x ∈ o ∨ w0.heap.size ≤ x) (h2 : ∀ x ∈ fp2, x ∈ o ∨ w0.heap.size ≤ x) (k : Kept o w0 w) (h : OwnF fp1 w w' b S') : TwoF o w0 w' b r S' R := by
  obtain ⟨fp', hA', hn, k'⟩ := h
  refine ⟨fp', fp2, hA', hR.kept k' fun x hx hx' => hd x hx' hx, ?_, ?_, h2, k.trans k' fun j hj m => (h1 j m).resolve_right (by omega)⟩
  · intro x hx
    rcases hn x hx with h | h
    · exact hd x h
    · exact fun hx' => absurd (hR.fp_lt x hx') (by omega)
  · intro x hx
    rcases hn x hx with h | h
    · exact h1 x h
    · right; have := k.size; omega

theorem two_right {o w0 w w' b r} {S R' : Ar} {fp1 fp2 : List Nat} (hA : ArenaAt w b fp1 S) (hd : ∀ x ∈ fp1, x ∉ fp2) (h1 : ∀ x ∈ fp1, x ∈ o ∨ w0.heap.size ≤ x) (h2 : ∀ x ∈ fp2, x ∈ o ∨ w0.heap.size ≤ x) (k : Kept o w0 w) (h : RfOp w w' r fp2 R') : TwoF o w0 w' b r S R' := by
  obtain ⟨⟨fp', hR', hn⟩, k'⟩ := h
  refine ⟨fp1, fp', hA.kept k' fun x hx => hd x hx, hR', ?_, h1, ?_, k.trans k' fun j hj m => (h2 j m).resolve_right (by omega)⟩
  · intro x hx hx'
    rcases hn x hx' with h | h
    · exact hd x hx h
    · exact absurd (hA.fp_lt x hx) (by omega)
  · intro x hx
    rcases hn x hx with h | h
    · exact h2 x h
    · right; have := k.size; omega

/-- Whatever an arena's call does to an arena in a frame, it does beside the reference's. -/
theorem two_of_own {o w0 w b r} {S R : Ar} {f : Nat} {args : Array Value} {q : Ending → Prop} {S' : Ar} (h : TwoF o w0 w b r S R) (hT : TabAt w0) (ho : 0 ∉ o)
    (c : ∀ o, OwnF o w w b S → TabAt w → 0 ∉ o → Calls Tryd.prog f args w fun e w' => q e ∧ OwnF o w w' b S') :
    Calls Tryd.prog f args w fun e w' => q e ∧ TwoF o w0 w' b r S' R := by
  obtain ⟨fp1, fp2, hA, hR, hd, h1, h2, k⟩ := h
  refine (c fp1 ⟨fp1, hA, fun x hx => .inl hx, Kept.refl _ _⟩ (hT.kept k ho) fun hx => ?_).mono ?_
  · have := hT.pos
    rcases h1 _ hx with h | h
    · exact ho h
    · omega
  · rintro e w' ⟨h, hO⟩
    exact ⟨h, two_left hR hd h1 h2 k hO⟩

theorem two_alloc {o w0 w b r} {S R : Ar} (h : TwoF o w0 w b r S R) (hT : TabAt w0) (ho : 0 ∉ o) :
    Calls Tryd.prog 11 #[.pointer (some ⟨b, 0, none⟩)] w fun e w' => e = .returned (.tuple #[.int .i64 (allocS S).1, .int .i64 (allocS S).2.1]) ∧ TwoF o w0 w' b r (allocS S).2.2 R := by
  refine two_of_own h hT ho fun o hO hT' ho => ?_
  unfold allocS
  cases hl : lfree S.get S.size with
  | none => exact own_alloc_full hO (lfree_none hl)
  | some c =>
    obtain ⟨h1, h2, h3⟩ := lfree_some hl
    exact own_alloc hO hT' c h1 h2 h3 ho

theorem two_free {o w0 w b r} {S R : Ar} (h : TwoF o w0 w b r S R) (hT : TabAt w0) (ho : 0 ∉ o) (c : Int) (h0 : -9223372036854775808 ≤ c) (h1 : c < 9223372036854775808) :
    Calls Tryd.prog 16 #[.pointer (some ⟨b, 0, none⟩), .int .i64 c] w fun e w' => e = .returned (.int .i64 (freeS S c).1) ∧ TwoF o w0 w' b r (freeS S c).2 R := by
  refine two_of_own h hT ho fun o hO hT' ho => ?_
  unfold freeS
  by_cases hc : 0 ≤ c ∧ (S.get c.toNat).isSome = true
  · rw [if_pos hc]
    obtain ⟨k, rfl⟩ := Int.eq_ofNat_of_zero_le hc.1
    obtain ⟨v, hv⟩ := Option.isSome_iff_exists.1 hc.2
    exact own_free hO k v hv
  · rw [if_neg hc]
    refine (own_free_no hO c h0 h1 ?_).mono ?_
    · by_cases h : 0 ≤ c
      · right
        cases hg : S.get c.toNat with
        | none => rfl
        | some v => exact absurd ⟨h, by simp [hg]⟩ hc
      · left; omega
    · rintro e w' ⟨rfl, rfl⟩
      exact ⟨rfl, hO⟩

theorem two_do {o w0 w b r} {S R : Ar} (h : TwoF o w0 w b r S R) (hT : TabAt w0) (ho : 0 ∉ o) (k c x y : Int) (h0 : -9223372036854775808 ≤ c) (h1 : c < 9223372036854775808) :
    Calls Tryd.prog 18 #[.pointer (some ⟨b, 0, none⟩), .agg #[.int .i64 k, .int .i64 c, .int .u64 x, .int .u64 y]] w fun e w' => e = .returned (.tuple #[.int .u64 (doS S k c x y).1, .int .i64 (doS S k c x y).2.1]) ∧ TwoF o w0 w' b r (doS S k c x y).2.2 R :=
  two_of_own h hT ho fun o hO hT' ho => own_do hO k c x y h0 h1

theorem two_used {o w0 w b r} {S R : Ar} (h : TwoF o w0 w b r S R) :
    Calls Tryd.prog 17 #[.pointer (some ⟨b, 0, none⟩)] w fun e w' => e = .returned (.int .i64 (cnt S.get S.size)) ∧ w = w' := by
  obtain ⟨fp1, fp2, hA, hR, hd, h1, h2, k⟩ := h
  exact used_arena hA

theorem two_steps {o w0 w b r} {S R : Ar} (h : TwoF o w0 w b r S R) :
    Calls Tryd.prog 22 #[.pointer (some ⟨b, 0, none⟩)] w fun e w' => e = .returned (.int .i64 S.steps) ∧ w = w' := by
  obtain ⟨fp1, fp2, hA, hR, hd, h1, h2, k⟩ := h
  exact steps_arena hA

theorem two_ralloc {o w0 w b r} {S R : Ar} (h : TwoF o w0 w b r S R) :
    Calls Tryd.prog 26 #[.pointer (some ⟨r, 0, none⟩)] w fun e w' => e = .returned (.tuple #[.int .i64 (allocS R).1, .int .i64 (allocS R).2.1]) ∧ TwoF o w0 w' b r S (allocS R).2.2 := by
  obtain ⟨fp1, fp2, hA, hR, hd, h1, h2, k⟩ := h
  refine (ref_alloc hR).mono ?_
  rintro e w' ⟨rfl, hO⟩
  exact ⟨rfl, two_right hA hd h1 h2 k hO⟩

theorem two_rfree {o w0 w b r} {S R : Ar} (h : TwoF o w0 w b r S R) (c : Int) :
    Calls Tryd.prog 27 #[.pointer (some ⟨r, 0, none⟩), .int .i64 c] w fun e w' => e = .returned (.int .i64 (freeS R c).1) ∧ TwoF o w0 w' b r S (freeS R c).2 := by
  obtain ⟨fp1, fp2, hA, hR, hd, h1, h2, k⟩ := h
  refine (ref_free hR c).mono ?_
  rintro e w' ⟨rfl, hO⟩
  exact ⟨rfl, two_right hA hd h1 h2 k hO⟩

theorem two_rdo {o w0 w b r} {S R : Ar} (h : TwoF o w0 w b r S R) (k c x y : Int) :
    Calls Tryd.prog 28 #[.pointer (some ⟨r, 0, none⟩), .agg #[.int .i64 k, .int .i64 c, .int .u64 x, .int .u64 y]] w fun e w' => e = .returned (.tuple #[.int .u64 (doS R k c x y).1, .int .i64 (doS R k c x y).2.1]) ∧ TwoF o w0 w' b r S (doS R k c x y).2.2 := by
  obtain ⟨fp1, fp2, hA, hR, hd, h1, h2, k'⟩ := h
  refine (ref_do hR k c x y).mono ?_
  rintro e w' ⟨rfl, hO⟩
  exact ⟨rfl, two_right hA hd h1 h2 k' hO⟩

theorem two_rused {o w0 w b r} {S R : Ar} (h : TwoF o w0 w b r S R) :
    Calls Tryd.prog 21 #[.pointer (some ⟨r, 0, none⟩)] w fun e w' => e = .returned (.int .i64 (cnt R.get R.size)) ∧ w = w' := by
  obtain ⟨fp1, fp2, hA, hR, hd, h1, h2, k⟩ := h
  exact ref_used hR

theorem two_many {o w0 w b r} {S R : Ar} (h : TwoF o w0 w b r S R) : w.cell? ⟨r, 3, none⟩ = some (.int .i64 R.steps) := by
  obtain ⟨fp1, fp2, hA, ⟨hv, tv, hs, ts, hr, _, _⟩, _⟩ := h
  exact hr.c3

end Go.Proofs.YtngmimhpeeahoaaDoor
