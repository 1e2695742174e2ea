/- An operation that is stepped till it is done, reckoned. -/
import Derived.Test.YtpckpgdkfimapaaDoorSkipAll
namespace Go.Proofs.YtpckpgdkfimapaaDoor
open Go Go.RowKit
set_option linter.unusedVariables false

/-- 'SkOk', reckoned. -/
def hasB (T : ASk) (p l : Int) : Bool := decide (0 ≤ p) && decide (0 ≤ l) && decide (l < 8) && (match T.at_ (p.toNat, l.toNat) with | some v => decide (0 ≤ v) | none => false)
def okB (T : ASk) (q : ASop) : Bool :=
  (decide (q.kind = 0) || decide (q.kind = 1) || decide (q.kind = 2)) && (List.range T.nN).all (fun i => decide ((T.E i).wd.size ≤ 16) && decide ((T.E i).h ≤ 8)) && decide (q.wd.size ≤ 16)
  && (decide (0 ≤ q.height) && decide (q.height ≤ 8)) && decide (T.nN ≤ 65536) && decide (T.used + q.height.toNat ≤ T.size)
  && (decide (q.own = 0) || decide (0 < q.own) && decide (q.own < T.nN) && !(T.E q.own.toNat).gone)
  && (q.begun && decide (q.does = 3)
      || !q.begun && decide (q.does = 0) && hasB T 0 7
      || q.begun && decide (q.does = 0) && hasB T q.pred q.level
      || q.begun && decide (q.does = 1) && decide (0 < q.own) && hasB T q.own q.linked && decide (0 ≤ q.succs q.linked.toNat) && decide (q.succs q.linked.toNat < T.nN)
      || q.begun && decide (q.does = 2) && hasB T (q.preds q.linked.toNat) q.linked && decide (0 ≤ q.succs q.linked.toNat) && decide (q.succs q.linked.toNat < T.nN) && decide (0 ≤ q.own) && decide (q.own < T.nN))

theorem hasB_out {T : ASk} {p l : Int} (h : hasB T p l = true) : ∃ (a c : Nat) (v : Int), p = (a : Int) ∧ l = (c : Int) ∧ c < 8 ∧ T.at_ (a, c) = some v ∧ 0 ≤ v := by
  unfold hasB at h
  simp only [Bool.and_eq_true, decide_eq_true_eq] at h
  obtain ⟨⟨⟨h1, h2⟩, h3⟩, h4⟩ := h
  cases e : T.at_ (p.toNat, l.toNat) with
  | none => rw [e] at h4; cases h4
  | some v =>
    rw [e] at h4
    exact ⟨p.toNat, l.toNat, v, by omega, by omega, by omega, e, by simpa using h4⟩

theorem okB_ok {T : ASk} {q : ASop} (h : okB T q = true) : SkOk T q := by
  unfold okB at h
  simp only [Bool.and_eq_true, Bool.or_eq_true, decide_eq_true_eq, List.all_eq_true, List.mem_range, Bool.not_eq_true'] at h
  obtain ⟨⟨⟨⟨⟨⟨⟨hk, hn⟩, hw⟩, hh⟩, hN⟩, hf⟩, ho⟩, hd⟩ := h
  refine ⟨by omega, fun i hi => (hn i hi).1, fun i hi => (hn i hi).2, fun _ => hw, hh, hN, hf, ?_, ?_, ?_, ?_, ?_, ?_⟩
  · rcases ho with h | ⟨⟨h1, h2⟩, h3⟩
    · exact .inl h
    · refine .inr ⟨q.own.toNat - 1, by omega, by omega, ?_⟩
      rw [show q.own.toNat - 1 + 1 = q.own.toNat by omega]; exact h3
  · omega
  · intro hb
    rw [hb] at hd
    rcases hd with (((h | h) | h) | h) | h
    · exact absurd h.1 (by simp)
    · obtain ⟨a, c, v, h1, h2, h3, h4, h5⟩ := hasB_out h.2
      obtain rfl : a = 0 := by omega
      obtain rfl : c = 7 := by omega
      exact ⟨h.1.2, v, h4, h5⟩
    · exact absurd h.1.1 (by simp)
    · exact absurd h.1.1.1.1.1 (by simp)
    · exact absurd h.1.1.1.1.1.1 (by simp)
  · intro hb h0
    rw [hb] at hd
    rcases hd with (((h | h) | h) | h) | h
    · omega
    · exact absurd h.1.1 (by simp)
    · obtain ⟨a, c, v, h1, h2, h3, h4, h5⟩ := hasB_out h.2
      exact ⟨a, c, v, h1, h2, h3, h4, h5⟩
    · omega
    · omega
  · intro hb h0
    rw [hb] at hd
    rcases hd with (((h | h) | h) | h) | h
    · omega
    · omega
    · omega
    · obtain ⟨a, c, v, h1, h2, h3, h4, h5⟩ := hasB_out h.1.1.2
      obtain ⟨m, rfl⟩ : ∃ m, a = m + 1 := ⟨a - 1, by omega⟩
      have e : q.linked.toNat = c := by omega
      have g1 := h.1.2
      have g2 := h.2
      rw [e] at g1 g2
      exact ⟨m, c, v, by omega, h2, h3, h4, g1, g2⟩
    · omega
  · intro hb h0
    rw [hb] at hd
    rcases hd with (((h | h) | h) | h) | h
    · omega
    · omega
    · omega
    · omega
    · obtain ⟨a, c, v, h1, h2, h3, h4, h5⟩ := hasB_out h.1.1.1.1.2
      have e : q.linked.toNat = c := by omega
      have g1 := h.1.1.1.2
      have g2 := h.1.1.2
      rw [e] at g1 g2 h1
      exact ⟨a, c, v, h2, h3, h1, h4, g1, g2, h.1.2, h.2⟩

/-- An operation that is stepped till it is done; every step is one that may be shown. -/
def runB : Nat → ASk → ASop → Option (ASk × ASop × Nat)
  | 0, _, _ => none
  | n + 1, T, q => if okB T q = true then (if (stepS T q).2.2 = true then some ((stepS T q).1, (stepS T q).2.1, 1) else (runB n (stepS T q).1 (stepS T q).2.1).map fun r => (r.1, r.2.1, r.2.2 + 1)) else none
end Go.Proofs.YtpckpgdkfimapaaDoor
