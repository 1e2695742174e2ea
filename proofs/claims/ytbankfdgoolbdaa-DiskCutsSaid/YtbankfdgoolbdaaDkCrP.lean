/- For Crash, told plainly: rising lists, names done one by one, a torn tail. Nothing is claimed of a program here. -/
import Derived.Test.YtbankfdgoolbdaaDkApp
namespace Go.Proofs.Ytbankfdgoolbdaa
open Go
set_option linter.unusedVariables false
section
variable {α β : Type}

theorem rising_ext {l l' : List (Nm × α)} (h : Rising l) (h' : Rising l') (e : ∀ p, p ∈ l ↔ p ∈ l') : l = l' := by
  have hnd : ∀ {l : List (Nm × α)}, Rising l → l.Nodup := fun h => by
    refine List.Pairwise.imp (fun {p q} hb he => ?_) h
    rw [he, bytesBefore_irrefl] at hb
    cases hb
  have hp : l.Perm l' := (List.perm_ext_iff_of_nodup (hnd h) (hnd h')).2 e
  refine hp.eq_of_pairwise (fun a b _ _ h1 h2 => ?_) h h'
  have := bytesBefore_trans h1 h2
  rw [bytesBefore_irrefl] at this
  cases this

theorem rising_filter {l : List (Nm × α)} (h : Rising l) (f : Nm × α → Bool) : Rising (l.filter f) := h.filter _

theorem rising_map {l : List (Nm × α)} (h : Rising l) (f : α → β) : Rising (alMap f l) := by
  unfold Rising alMap
  rw [List.pairwise_map]
  exact h

/-- One name more is done. -/
theorem put_done {d : List (Nm × α)} (h : Rising d) {p : Nm × α} (hp : p ∈ d) (dn dn' : Nm → Bool) (hd : ∀ s, dn' s = (dn s || s == p.1)) :
    alPut (d.filter fun q => dn q.1) p.1 p.2 = d.filter fun q => dn' q.1 := by
  refine rising_ext (rising_put (rising_filter h _) _ _) (rising_filter h _) fun q => ?_
  rw [mem_alPut, List.mem_filter, List.mem_filter, hd]
  simp only [Bool.or_eq_true, beq_iff_eq]
  constructor
  · rintro (rfl | ⟨⟨h1, h2⟩, h3⟩)
    · exact ⟨hp, .inr rfl⟩
    · exact ⟨h1, .inl h2⟩
  · rintro ⟨h1, h2⟩
    by_cases e : q.1 = p.1
    · left
      exact h.inj h1 hp e
    · right
      exact ⟨⟨h1, h2.resolve_right e⟩, e⟩
end

/-- The last i bytes turned. -/
def torn (c : List UInt8) (i : Nat) : List UInt8 := c.take (c.length - i) ++ (c.drop (c.length - i)).map (· ^^^ 255)

theorem torn_zero (c : List UInt8) : torn c 0 = c := by
  unfold torn
  rw [Nat.sub_zero, List.take_length, List.drop_length]
  simp

theorem torn_len (c : List UInt8) (i : Nat) : (torn c i).length = c.length := by
  unfold torn
  rw [List.length_append, List.length_take, List.length_map, List.length_drop]
  omega

theorem torn_get {c : List UInt8} {i : Nat} (hi : i < c.length) : (torn c i)[c.length - 1 - i]? = c[c.length - 1 - i]? := by
  unfold torn
  rw [List.getElem?_append_left (by rw [List.length_take]; omega), List.getElem?_take_of_lt (by omega)]

theorem torn_succ {c : List UInt8} {i : Nat} (hi : i < c.length) : (torn c i).set (c.length - 1 - i) ((c.getD (c.length - 1 - i) 0) ^^^ 255) = torn c (i + 1) := by
  refine List.ext_getElem? fun j => ?_
  have hl := torn_len c i
  rw [List.getElem?_set, hl]
  have hget : ∀ k, (torn c k)[j]? = if j < c.length - k then c[j]? else (c[j]?).map (· ^^^ 255) := by
    intro k
    unfold torn
    by_cases e : j < c.length - k
    · rw [if_pos e, List.getElem?_append_left (by rw [List.length_take]; omega), List.getElem?_take_of_lt e]
    · rw [if_neg e, List.getElem?_append_right (by rw [List.length_take]; omega), List.getElem?_map, List.getElem?_drop, List.length_take]
      by_cases e2 : j < c.length
      · congr 2; omega
      · rw [List.getElem?_eq_none (by omega : c.length ≤ j), List.getElem?_eq_none (by omega)]
  rw [hget, hget]
  by_cases e : c.length - 1 - i = j
  · subst e
    rw [if_pos rfl, if_pos (by omega), if_neg (by omega)]
    rw [List.getD_eq_getElem?_getD, List.getElem?_eq_getElem (by omega)]
    rfl
  · rw [if_neg e]
    by_cases e2 : j < c.length - i
    · rw [if_pos e2, if_pos (by omega)]
    · rw [if_neg e2, if_neg (by omega)]

theorem left_eq (x : AFile) (hx : x.sy ≤ x.b.length) (keep tear : Int) : x.left keep tear = ⟨torn (x.b.take (x.sy + clamp keep (x.b.length - x.sy))) (clamp tear (clamp keep (x.b.length - x.sy))), (x.b.take (x.sy + clamp keep (x.b.length - x.sy))).length⟩ := by
  have hk : clamp keep (x.b.length - x.sy) ≤ x.b.length - x.sy := Nat.min_le_right _ _
  unfold AFile.left torn
  simp only
  generalize clamp keep (x.b.length - x.sy) = k at *
  have hn : (x.b.take (x.sy + k)).length = x.sy + k := by rw [List.length_take]; omega
  rw [hn, List.take_take]
  congr 2
  congr 1
  omega

theorem runLog_snoc {l m : Dir} {L : List Chg} {i : Nat} {c : Chg} (h : runLog l (L.take i) = some m) (hc : L[i]? = some c) : runLog l (L.take (i + 1)) = c.on m := by
  have hi := (List.getElem?_eq_some_iff.1 hc)
  obtain ⟨hlt, rfl⟩ := hi
  rw [List.take_succ_eq_append_getElem hlt, runLog_append, h]
  show (L[i].on m).bind (fun l' => some l') = _
  cases L[i].on m <;> rfl

end Go.Proofs.Ytbankfdgoolbdaa
