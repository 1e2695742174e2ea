/- Keys in order; the chains of a skip list's levels. Nothing is claimed of a program here. -/
import Derived.Test.YtpckpgdkfimapaaDoorSkipShown
import Derived.Sort.Walk0
import Derived.Laws.Strings
import Derived.WideShapes
namespace Go.Proofs.YtpckpgdkfimapaaDoor
open Go Go.RowKit
set_option linter.unusedVariables false

/-- A text's bytes, and the order of texts. -/
def byt (k : ByteArray) : List UInt8 := k.data.toList
def kl (a c : ByteArray) : Prop := byt a < byt c
theorem byt_inj {a c : ByteArray} (h : byt a = byt c) : a = c := Go.WideShapes.bytes_inj h
theorem lessB_iff {a c : ByteArray} : lessB a c = true ↔ kl a c := by
  unfold lessB kl byt
  rw [bytesLess_eq, ByteArray.toList_eq, ByteArray.toList_eq, decide_eq_true_iff]
theorem kl_irrefl (a : ByteArray) : ¬ kl a a := List.lt_irrefl _
theorem kl_trans {a b c : ByteArray} (h1 : kl a b) (h2 : kl b c) : kl a c := List.lt_trans h1 h2
theorem kl_tri (a c : ByteArray) : kl a c ∨ a = c ∨ kl c a := by
  rcases Decidable.em (byt a < byt c) with h | h
  · exact .inl h
  · rcases Decidable.em (byt c < byt a) with h2 | h2
    · exact .inr (.inr h2)
    · exact .inr (.inl (byt_inj (List.le_antisymm (List.not_lt.1 h2) (List.not_lt.1 h))))
theorem kl_not {a c : ByteArray} (h : ¬ kl a c) : a = c ∨ kl c a := (kl_tri a c).resolve_left h
theorem kl_le_trans {a b c : ByteArray} (h1 : ¬ kl b a) (h2 : kl b c) : kl a c := by
  rcases kl_not h1 with e | h
  · rw [← e]; exact h2
  · exact kl_trans h h2

/-- The chain of a level from a node on. -/
def Lk (T : ASk) (l : Nat) : Nat → List Nat → Prop
  | p, [] => (T.E p).nx l = 0
  | p, v :: s => (T.E p).nx l = (v : Int) ∧ Lk T l v s
theorem Lk.congr {T T' : ASk} {l : Nat} : ∀ {p : Nat} {s : List Nat}, Lk T l p s → (∀ i, i = p ∨ i ∈ s → (T'.E i).nx l = (T.E i).nx l) → Lk T' l p s
  | p, [], h, e => by
    show (T'.E p).nx l = 0
    rw [e p (.inl rfl)]; exact h
  | p, v :: s, h, e => ⟨by rw [e p (.inl rfl)]; exact h.1, Lk.congr h.2 fun i hi => e i (.inr (by
    rcases hi with rfl | hi
    · simp
    · simp [hi]))⟩

/-- A node is behind another one. -/
def aft (K : Nat → ByteArray) (p u : Nat) : Prop := p = 0 ∨ kl (K p) (K u)
/-- Nodes by rising keys, behind one. -/
def Srt (K : Nat → ByteArray) (a : Nat) (s : List Nat) : Prop := (∀ v ∈ s, v ≠ 0 ∧ aft K a v) ∧ s.Pairwise fun u v => kl (K u) (K v)
theorem Srt.tail {K : Nat → ByteArray} {a v : Nat} {s : List Nat} (h : Srt K a (v :: s)) : Srt K v s := by
  obtain ⟨h1, h2⟩ := h
  rw [List.pairwise_cons] at h2
  exact ⟨fun u hu => ⟨(h1 u (by simp [hu])).1, .inr (h2.1 u hu)⟩, h2.2⟩

/-- What comes next. -/
theorem Lk.next {T : ASk} {l : Nat} {K : Nat → ByteArray} : ∀ {a : Nat} {s : List Nat} {p : Nat}, Lk T l a s → Srt K a s → (p = a ∨ p ∈ s) →
    ((T.E p).nx l = 0 ∧ ∀ u ∈ s, ¬ aft K p u) ∨ ∃ m ∈ s, (T.E p).nx l = (m : Int) ∧ aft K p m ∧ ∀ u ∈ s, aft K p u → u = m ∨ kl (K m) (K u)
  | a, [], p, h, _, hp => by
    obtain rfl : p = a := by simpa using hp
    exact .inl ⟨h, fun u hu => by cases hu⟩
  | a, v :: s, p, h, hs, hp => by
    by_cases hpa : p = a
    · subst hpa
      refine .inr ⟨v, by simp, h.1, (hs.1 v (by simp)).2, fun u hu _ => ?_⟩
      rcases List.mem_cons.1 hu with e | hu
      · exact .inl e
      · have := hs.2
        rw [List.pairwise_cons] at this
        exact .inr (this.1 u hu)
    · have hp2 : p = v ∨ p ∈ s := by
        rcases hp with e | hp
        · exact absurd e hpa
        · simpa using hp
      have hv0 := (hs.1 v (by simp)).1
      have hst := hs.tail
      have hno : ¬ aft K p v := by
        rintro (e | e)
        · rcases hp2 with e2 | e2
          · exact hv0 (e2 ▸ e)
          · exact (hst.1 p e2).1 e
        · rcases hp2 with e2 | e2
          · rw [e2] at e; exact kl_irrefl _ e
          · rcases (hst.1 p e2).2 with e3 | e3
            · exact hv0 e3
            · exact kl_irrefl _ (kl_trans e e3)
      rcases Lk.next h.2 hst hp2 with ⟨e1, e2⟩ | ⟨m, hm, e1, e2, e3⟩
      · refine .inl ⟨e1, fun u hu => ?_⟩
        rcases List.mem_cons.1 hu with rfl | hu
        · exact hno
        · exact e2 u hu
      · refine .inr ⟨m, by simp [hm], e1, e2, fun u hu hau => ?_⟩
        rcases List.mem_cons.1 hu with rfl | hu
        · exact absurd hau hno
        · exact e3 u hu hau

/-- One node more, in its place. -/
noncomputable def insK (K : Nat → ByteArray) (m : Nat) : List Nat → List Nat
  | [] => [m]
  | v :: s => if lessB (K v) (K m) = true then v :: insK K m s else m :: v :: s
theorem mem_insK {K : Nat → ByteArray} {m x : Nat} : ∀ {s : List Nat}, x ∈ insK K m s ↔ x = m ∨ x ∈ s
  | [] => by unfold insK; simp
  | v :: s => by
    unfold insK
    split
    · rw [List.mem_cons, mem_insK, List.mem_cons]
      constructor
      · rintro (h | h | h)
        · exact .inr (.inl h)
        · exact .inl h
        · exact .inr (.inr h)
      · rintro (h | h | h)
        · exact .inr (.inl h)
        · exact .inl h
        · exact .inr (.inr h)
    · rw [List.mem_cons]
theorem insK_len {K : Nat → ByteArray} {m : Nat} : ∀ {s : List Nat}, (insK K m s).length = s.length + 1
  | [] => rfl
  | v :: s => by
    unfold insK
    split
    · rw [List.length_cons, insK_len, List.length_cons]
    · rfl
theorem insK_sub {K : Nat → ByteArray} {m : Nat} : ∀ {s : List Nat}, s.Sublist (insK K m s)
  | [] => List.nil_sublist _
  | v :: s => by
    unfold insK
    split
    · exact insK_sub.cons_cons v
    · exact List.sublist_cons_self _ _
theorem insK_srt {K : Nat → ByteArray} {m : Nat} : ∀ {s : List Nat}, s.Pairwise (fun u v => kl (K u) (K v)) → (∀ u ∈ s, K u ≠ K m) → (insK K m s).Pairwise (fun u v => kl (K u) (K v))
  | [], _, _ => List.pairwise_singleton _ _
  | v :: s, h, hne => by
    rw [List.pairwise_cons] at h
    unfold insK
    split
    · rename_i hlt
      rw [List.pairwise_cons]
      refine ⟨fun u hu => ?_, insK_srt h.2 fun u hu => hne u (by simp [hu])⟩
      rcases mem_insK.1 hu with rfl | hu
      · exact lessB_iff.1 hlt
      · exact h.1 u hu
    · rename_i hlt
      have hmv : kl (K m) (K v) := by
        rcases kl_tri (K v) (K m) with e | e | e
        · exact absurd (lessB_iff.2 e) hlt
        · exact absurd e (hne v (by simp))
        · exact e
      rw [List.pairwise_cons]
      refine ⟨fun u hu => ?_, List.pairwise_cons.2 h⟩
      rcases List.mem_cons.1 hu with rfl | hu
      · exact hmv
      · exact kl_trans hmv (h.1 u hu)

theorem Lk.ins {T T' : ASk} {l m p : Nat} {K : Nat → ByteArray} (hm : (T'.E p).nx l = (m : Int)) (hm2 : (T'.E m).nx l = (T.E p).nx l) (ho : ∀ i, i ≠ p → i ≠ m → (T'.E i).nx l = (T.E i).nx l) (hbef : p = 0 ∨ kl (K p) (K m))
    (haft : ∀ v : Nat, (T.E p).nx l = (v : Int) → v ≠ 0 → kl (K m) (K v)) : ∀ {a : Nat} {s : List Nat}, Lk T l a s → Srt K a s → (p = a ∨ p ∈ s) → m ≠ a → m ∉ s → Lk T' l a (insK K m s)
  | a, [], h, hs, hp, h1, h2 => by
    obtain rfl : p = a := by simpa using hp
    exact ⟨hm, hm2.trans h⟩
  | a, v :: s, h, hs, hp, h1, h2 => by
    have hmv : m ≠ v := fun e => h2 (by simp [e])
    have hms : m ∉ s := fun e => h2 (by simp [e])
    have hv0 := (hs.1 v (by simp)).1
    have hst := hs.tail
    unfold insK
    split
    · rename_i hlt
      have hlt := lessB_iff.1 hlt
      have hpa : p ≠ a := fun e => by
        subst e
        exact kl_irrefl _ (kl_trans hlt (haft v h.1 hv0))
      have hp2 : p = v ∨ p ∈ s := by
        rcases hp with e | hp
        · exact absurd e hpa
        · simpa using hp
      exact ⟨by rw [ho a (fun e => hpa e.symm) (fun e => h1 e.symm)]; exact h.1, Lk.ins hm hm2 ho hbef haft h.2 hst hp2 hmv hms⟩
    · rename_i hlt
      have hpa : p = a := by
        rcases hp with e | hp
        · exact e
        · exfalso
          rcases List.mem_cons.1 hp with rfl | hp
          · rcases hbef with e | e
            · exact hv0 e
            · exact hlt (lessB_iff.2 e)
          · rcases hbef with e | e
            · exact (hst.1 p hp).1 e
            · rcases (hst.1 p hp).2 with e2 | e2
              · exact hv0 e2
              · exact hlt (lessB_iff.2 (kl_trans e2 e))
      subst hpa
      have hps : p ∉ v :: s := fun hp2 => by
        rcases (hs.1 p hp2).2 with e | e
        · exact (hs.1 p hp2).1 e
        · exact kl_irrefl _ e
      refine ⟨hm, hm2.trans h.1, Lk.congr h.2 fun i hi => ho i (fun e => hps ?_) fun e => h2 ?_⟩
      · rw [← e]
        rcases hi with h | hi
        · rw [h]; simp
        · simp [hi]
      · rw [← e]
        rcases hi with h | hi
        · rw [h]; simp
        · simp [hi]
end Go.Proofs.YtpckpgdkfimapaaDoor
