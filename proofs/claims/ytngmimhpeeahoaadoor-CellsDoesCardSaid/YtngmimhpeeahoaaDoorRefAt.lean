/- The reference's arena, told plainly; what each call does to it. -/
import Derived.Test.YtngmimhpeeahoaaDoorRefNew
import Derived.Test.YtngmimhpeeahoaaDoorDo
namespace Go.Proofs.YtngmimhpeeahoaaDoor
open Go Go.RowKit
set_option linter.unusedVariables false

/-- The least of the first n cells that is free. -/
def lfree (get : Nat → Option Int) : Nat → Option Nat
  | 0 => none
  | n + 1 => match lfree get n with
    | some c => some c
    | none => if (get n).isNone then some n else none

theorem lfree_none {get : Nat → Option Int} {n : Nat} (h : lfree get n = none) : ∀ d, d < n → (get d).isSome = true := by
  induction n with
  | zero => intro d hd; omega
  | succ n ih =>
    intro d hd
    unfold lfree at h
    cases hl : lfree get n with
    | some c => rw [hl] at h; cases h
    | none =>
      rw [hl] at h
      simp only at h
      by_cases hdn : d = n
      · subst hdn
        cases hg : get d with
        | none => rw [hg] at h; simp at h
        | some v => rfl
      · exact ih hl d (by omega)

theorem lfree_some {get : Nat → Option Int} {n c : Nat} (h : lfree get n = some c) : c < n ∧ get c = none ∧ ∀ d, d < c → (get d).isSome = true := by
  induction n with
  | zero => cases h
  | succ n ih =>
    unfold lfree at h
    cases hl : lfree get n with
    | some c' =>
      rw [hl] at h
      simp only [Option.some.injEq] at h
      subst h
      obtain ⟨h1, h2⟩ := ih hl
      exact ⟨by omega, h2⟩
    | none =>
      rw [hl] at h
      simp only at h
      split at h
      · rename_i hg
        simp only [Option.some.injEq] at h
        subst h
        exact ⟨by omega, by simpa using hg, lfree_none hl⟩
      · cases h

def allocS (S : Ar) : Int × Int × Ar := match lfree S.get S.size with
  | some c => (c, 0, S.put c 0)
  | none => (0, 31, S)
def freeS (S : Ar) (c : Int) : Int × Ar := if 0 ≤ c ∧ (S.get c.toNat).isSome = true then (0, S.drop c.toNat) else (30, S)

structure RfInv (S : Ar) (hs : List Int) (ts : List Bool) : Prop where
  one : 1 ≤ S.size
  max : S.size ≤ 65536
  cap : hs.length ≤ S.size
  get : ∀ c : Nat, S.get c = if ts.getD c false then some (hs.getD c 0) else none

def RefAt (w : World) (b : Nat) (fp : List Nat) (S : Ar) : Prop :=
  ∃ hv tv hs ts, RfRep w b hv tv S.size hs ts S.steps ∧ fp = b :: (rowsOf hv ++ rowsOf tv) ∧ RfInv S hs ts

theorem RefAt.kept {own : List Nat} {w w' : World} {b : Nat} {fp : List Nat} {S : Ar} (h : RefAt w b fp S) (k : Kept own w w') (hn : ∀ x ∈ fp, x ∉ own) : RefAt w' b fp S := by
  obtain ⟨hv, tv, hs, ts, hr, rfl, hi⟩ := h
  exact ⟨hv, tv, hs, ts, ⟨k.blk hr.blk (hn b (by simp)), k.row hr.hrow (fun j hj => hn j (by simp [mem_rowsOf, hj])), k.row hr.trow (fun j hj => hn j (by simp [mem_rowsOf, hj])), hr.hne, hr.tne, hr.apart, hr.len, hr.few⟩, rfl, hi⟩

theorem RefAt.fp_lt {w : World} {b : Nat} {fp : List Nat} {S : Ar} (h : RefAt w b fp S) : ∀ x ∈ fp, x < w.heap.size := by
  obtain ⟨hv, tv, hs, ts, hr, rfl, hi⟩ := h
  intro x hx
  simp only [List.mem_cons, List.mem_append] at hx
  rcases hx with rfl | hx | hx
  · exact hr.blk.lt
  · exact (hr.hrow.lt x (mem_rowsOf.1 hx)).2
  · exact (hr.trow.lt x (mem_rowsOf.1 hx)).2

structure RfOp (w w' : World) (b : Nat) (fp : List Nat) (S' : Ar) : Prop where
  at_ : ∃ fp', RefAt w' b fp' S' ∧ ∀ x ∈ fp', x ∈ fp ∨ w.heap.size ≤ x
  kept : Kept fp w w'

theorem RfInv.taken {S : Ar} {hs : List Int} {ts : List Bool} (h : RfInv S hs ts) (hl : hs.length = ts.length) (c : Int) : takenR ts c = (decide (0 ≤ c) && (S.get c.toNat).isSome) := by
  unfold takenR
  rw [h.get c.toNat]
  by_cases h0 : 0 ≤ c
  · cases ht : ts.getD c.toNat false
    · simp
    · have hlt : c.toNat < ts.length := by
        refine Nat.lt_of_not_le fun hge => ?_
        rw [List.getD_eq_getElem?_getD, List.getElem?_eq_none hge] at ht
        cases ht
      simp [h0]; omega
  · simp [h0]

theorem RfInv.lt {S : Ar} {hs : List Int} {ts : List Bool} (h : RfInv S hs ts) {c : Nat} {v : Int} (hg : S.get c = some v) : c < ts.length ∧ hs.getD c 0 = v ∧ ts.getD c false = true := by
  rw [h.get c] at hg
  split at hg
  · rename_i ht
    refine ⟨?_, by simpa using hg, ht⟩
    refine Nat.lt_of_not_le fun hge => ?_
    rw [List.getD_eq_getElem?_getD, List.getElem?_eq_none hge] at ht
    cases ht
  · cases hg

theorem ref_new (w : World) (size : Int) (h0 : 1 ≤ size) (h1 : size ≤ 65536) :
    Calls Tryd.prog 19 #[.int .i64 size] w fun e w' => e = .returned (.tuple #[.pointer (some ⟨w.heap.size, 0, none⟩), .int .i64 0]) ∧ RefAt w' w.heap.size [w.heap.size] ⟨size.toNat, fun _ => none, 0⟩ ∧ Kept [] w w' := by
  refine (rnew_walk w size h0 h1).mono ?_
  rintro e w' ⟨rfl, rfl⟩
  refine ⟨rfl, ⟨.slice none 0 0, .slice none 0 0, [], [], ⟨?_, World.ownsRow_nil _ _ _ _, World.ownsRow_nil _ _ _ _, by simp [Value.ownBlock], by simp [Value.ownBlock], by simp [Value.ownBlock], rfl, by simp⟩, rfl, by show 1 ≤ size.toNat; omega, by show size.toNat ≤ 65536; omega, Nat.zero_le _, by simp⟩, (Kept.refl [] w).alloc _⟩
  refine Blk.made w _ _ _ _ rfl ?_
  intro i hi
  have : i = 0 ∨ i = 1 ∨ i = 2 ∨ i = 3 := by omega
  rcases this with rfl | rfl | rfl | rfl
  · show some (Value.int .i64 size) = some (Value.int .i64 (size.toNat : Int))
    rw [show ((size.toNat : Nat) : Int) = size from by omega]
  · rfl
  · rfl
  · rfl

theorem ref_free {w b fp} {S : Ar} (h : RefAt w b fp S) (c : Int) :
    Calls Tryd.prog 27 #[.pointer (some ⟨b, 0, none⟩), .int .i64 c] w fun e w' => e = .returned (.int .i64 (freeS S c).1) ∧ RfOp w w' b fp (freeS S c).2 := by
  obtain ⟨hv, tv, hs, ts, hr, rfl, hi⟩ := h
  have ht := rthere_calls hr c
  rw [hi.taken hr.len c] at ht
  unfold freeS
  by_cases hc : 0 ≤ c ∧ (S.get c.toNat).isSome = true
  · rw [if_pos hc]
    obtain ⟨k, rfl⟩ := Int.eq_ofNat_of_zero_le hc.1
    obtain ⟨v, hv'⟩ := Option.isSome_iff_exists.1 hc.2
    simp only [Int.toNat_natCast] at hv'
    obtain ⟨hlt, hgv, hgt⟩ := hi.lt hv'
    have e : (decide (0 ≤ (k : Int)) && (S.get (k : Int).toNat).isSome) = true := by simp [hv']
    rw [e] at ht
    have hfew := hr.few
    have hl := hr.len
    rcases row_val hr.trow with ⟨rfl, h0⟩ | ⟨g, cap, rfl, hcap, hcap2, hglt, hfr, hcells⟩
    · omega
    · have hck := hcells k (.bool true) (by
        rw [List.getElem?_map, List.getElem?_eq_getElem (by omega)]
        rw [List.getD_eq_getElem?_getD, List.getElem?_eq_getElem (by omega)] at hgt
        simpa using hgt)
      refine (rfree_walk w b ts.length cap k g true (by omega) hr.c2 hlt hck (hfr k) ht).mono ?_
      rintro e w' ⟨rfl, rfl⟩
      refine ⟨rfl, ⟨⟨_, ⟨_, _, hs, ts.set k false, hr.putTaken k false hlt, rfl, hi.one, hi.max, hi.cap, ?_⟩, fun x hx => .inl hx⟩, (Kept.refl _ w).set _ (by simp [rowsOf, Value.ownBlock])⟩⟩
      intro d
      show (if d = (k : Int).toNat then none else S.get d) = _
      simp only [Int.toNat_natCast]
      by_cases e : d = k
      · subst e; simp [hlt]
      · rw [if_neg e, hi.get d]
        simp [Ne.symm e]
  · rw [if_neg hc]
    have e : (decide (0 ≤ c) && (S.get c.toNat).isSome) = false := by
      cases h1 : (decide (0 ≤ c) && (S.get c.toNat).isSome)
      · rfl
      · simp at h1; exact absurd h1 hc
    rw [e] at ht
    refine (rfree_walk_no w b c ht).mono ?_
    rintro e w' ⟨rfl, rfl⟩
    exact ⟨rfl, ⟨⟨_, ⟨hv, tv, hs, ts, hr, rfl, hi⟩, fun x hx => .inl hx⟩, Kept.refl _ _⟩⟩

theorem ref_alloc {w b fp} {S : Ar} (h : RefAt w b fp S) :
    Calls Tryd.prog 26 #[.pointer (some ⟨b, 0, none⟩)] w fun e w' => e = .returned (.tuple #[.int .i64 (allocS S).1, .int .i64 (allocS S).2.1]) ∧ RfOp w w' b fp (allocS S).2.2 := by
  obtain ⟨hv, tv, hs, ts, hr, rfl, hi⟩ := h
  have hfew := hr.few
  have hl := hr.len
  have hmax := hi.max
  have hone := hi.one
  have hcapS := hi.cap
  have htrue : ∀ d, (S.get d).isSome = true → ts.getD d false = true := by
    intro d hd
    rw [hi.get d] at hd
    split at hd
    · assumption
    · cases hd
  have hfalse : ∀ d, S.get d = none → ts.getD d false = false := by
    intro d hd
    rw [hi.get d] at hd
    cases hts : ts.getD d false
    · rfl
    · rw [hts] at hd; cases hd
  have hlt_of : ∀ d, ts.getD d false = true → d < ts.length := by
    intro d ht
    refine Nat.lt_of_not_le fun hge => ?_
    rw [List.getD_eq_getElem?_getD, List.getElem?_eq_none hge] at ht
    cases ht
  unfold allocS
  cases hf : lfree S.get S.size with
  | none =>
    have hall := lfree_none hf
    have hge : S.size ≤ ts.length := by
      have := hlt_of (S.size - 1) (htrue _ (hall (S.size - 1) (by omega)))
      omega
    rcases row_val hr.trow with ⟨rfl, h0⟩ | ⟨g, cap, rfl, _⟩
    · omega
    · refine (ralloc_full ts.length g cap rfl (fun i hi' => htrue i (hall i (by omega))) ⟨by omega, by omega⟩ hr).mono ?_
      rintro e w' ⟨rfl, rfl⟩
      exact ⟨rfl, ⟨⟨_, ⟨_, _, hs, ts, hr, rfl, hi⟩, fun x hx => .inl hx⟩, Kept.refl _ _⟩⟩
  | some c =>
    obtain ⟨hc1, hc2, hc3⟩ := lfree_some hf
    have hcl : c ≤ ts.length := by
      refine Nat.le_of_not_lt fun hgt => ?_
      have := hlt_of ts.length (htrue _ (hc3 _ hgt))
      omega
    have hnew : ∀ (w' : World), RNew w b hv tv S.size hs ts S.steps w' → c = ts.length → RfOp w w' b (b :: (rowsOf hv ++ rowsOf tv)) (S.put c 0) := by
      rintro w' ⟨hv', tv', hrep, hk, hp1, hp2⟩ hct
      refine ⟨⟨_, ⟨hv', tv', hs ++ [0], ts ++ [true], hrep, rfl, hi.one, hi.max, ?_, ?_⟩, ?_⟩, hk⟩
      · show (hs ++ [0]).length ≤ S.size
        simp; omega
      · intro d
        show (if d = c then some 0 else S.get d) = _
        by_cases e : d = c
        · subst e
          have e1 : (ts ++ [true]).getD d false = true := by rw [hct]; simp
          have e2 : (hs ++ [0]).getD d 0 = 0 := by rw [hct, ← hl]; simp
          rw [if_pos rfl, e1, e2]; rfl
        · rw [if_neg e, hi.get d]
          by_cases hd : d < ts.length
          · have e1 : (ts ++ [true]).getD d false = ts.getD d false := by rw [List.getD_eq_getElem?_getD, List.getElem?_append_left hd, List.getD_eq_getElem?_getD]
            have e2 : (hs ++ [0]).getD d 0 = hs.getD d 0 := by rw [List.getD_eq_getElem?_getD, List.getElem?_append_left (by omega), List.getD_eq_getElem?_getD]
            rw [e1, e2]
          · have e1 : (ts ++ [true]).getD d false = false := by rw [List.getD_eq_getElem?_getD, List.getElem?_eq_none (by simp; omega)]; rfl
            have e2 : ts.getD d false = false := by rw [List.getD_eq_getElem?_getD, List.getElem?_eq_none (by omega)]; rfl
            rw [e1, e2]; rfl
      · intro x hx
        simp only [List.mem_cons, List.mem_append] at hx ⊢
        rcases hx with rfl | hx | hx
        · exact .inl (.inl rfl)
        · rcases hp1 x (mem_rowsOf.1 hx) with h | h
          · exact .inl (.inr (.inl (mem_rowsOf.2 h)))
          · exact .inr h
        · rcases hp2 x (mem_rowsOf.1 hx) with h | h
          · exact .inl (.inr (.inr (mem_rowsOf.2 h)))
          · exact .inr h
    by_cases hct : c = ts.length
    · rcases row_val hr.trow with ⟨rfl, h0⟩ | ⟨g, cap, rfl, _⟩
      · refine (ralloc_new0 c (by omega) hct (fun i hi' => htrue i (hc3 i hi')) ⟨by omega, by omega⟩ hr).mono ?_
        rintro e w' ⟨rfl, hN⟩
        exact ⟨rfl, hnew w' hN hct⟩
      · rw [hct] at hc3
        refine (ralloc_new ts.length g cap rfl (fun i hi' => htrue i (hc3 i hi')) ⟨by omega, by omega⟩ hr).mono ?_
        rintro e w' ⟨rfl, hN⟩
        exact ⟨by rw [hct], hnew w' hN hct⟩
    · rcases row_val hr.trow with ⟨rfl, h0⟩ | ⟨g, cap, rfl, hcp, hcp2, hglt, hfr, hcells⟩
      · omega
      rcases row_val hr.hrow with ⟨rfl, h0⟩ | ⟨hg, hcap, rfl, hhp, hhp2, hhlt, hhfr, hhcells⟩
      · omega
      have hgb : g ≠ b := fun e => hr.tne (by simp [Value.ownBlock, e])
      have hhb : hg ≠ b := fun e => hr.hne (by simp [Value.ownBlock, e])
      have hgh : hg ≠ g := fun e => hr.apart hg rfl (by simp [Value.ownBlock, e])
      have hc2' := hr.c1
      rw [hl] at hc2'
      refine (ralloc_in w b ts.length cap g hg hcap c S.size ts (by omega) rfl hr.c0 hc2' hr.c2 ?_ hfr hhfr (hs.getD c 0) (hhcells c _ ?_) hgb hhb hgh (by omega) (by omega) (fun i hi' => htrue i (hc3 i hi')) (hfalse c hc2)).mono ?_
      · intro i hil
        refine hcells i _ ?_
        rw [List.getElem?_map, List.getElem?_eq_getElem hil, List.getD_eq_getElem?_getD, List.getElem?_eq_getElem hil]; rfl
      · rw [List.getElem?_map, List.getElem?_eq_getElem (by omega), List.getD_eq_getElem?_getD, List.getElem?_eq_getElem (by omega)]; rfl
      rintro e w' ⟨rfl, q, rfl⟩
      refine ⟨rfl, ⟨⟨_, ⟨_, _, hs.set c 0, ts.set c true, ((hr.drewN q).putTaken c true (by omega)).putHas c 0 (by omega), rfl, hi.one, hi.max, by rw [List.length_set]; exact hi.cap, ?_⟩, fun x hx => .inl hx⟩, (((Kept.refl _ w).drewN q).set _ (by simp [rowsOf, Value.ownBlock])).set _ (by simp [rowsOf, Value.ownBlock])⟩⟩
      intro d
      show (if d = c then some 0 else S.get d) = _
      by_cases e : d = c
      · subst e
        have h1 : d < ts.length := by omega
        have h2 : d < hs.length := by omega
        simp [h1, h2]
      · rw [if_neg e, hi.get d]
        simp [Ne.symm e]

end Go.Proofs.YtngmimhpeeahoaaDoor
