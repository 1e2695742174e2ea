/- An arena that a call has made since a first world: what is carried from step to step. -/
import Derived.Test.YtpckpgdkfimapaaDoorArena
namespace Go.Proofs.YtpckpgdkfimapaaDoor
open Go Go.RowKit
set_option linter.unusedVariables false

/-- Since w0 nothing of w0 has changed, and an arena that was made since then lies at block b. -/
def OwnF (o : List Nat) (w0 w : World) (b : Nat) (S : Ar) : Prop := ∃ fp, ArenaAt w b fp S ∧ (∀ x ∈ fp, x ∈ o ∨ w0.heap.size ≤ x) ∧ Kept o w0 w
abbrev Own (w0 w : World) (b : Nat) (S : Ar) : Prop := OwnF [] w0 w b S

theorem OwnF.kept {o w0 w b S} (h : OwnF o w0 w b S) : Kept o w0 w := by
  obtain ⟨fp, _, _, k⟩ := h
  exact k

theorem OwnF.op {o : List Nat} {w0 w w' : World} {b : Nat} {S' : Ar} {fp : List Nat} (hn : ∀ x ∈ fp, x ∈ o ∨ w0.heap.size ≤ x) (k : Kept o w0 w) (op : ArOp w w' b fp S') : OwnF o w0 w' b S' := by
  obtain ⟨⟨fp', h', hn'⟩, k'⟩ := op
  refine ⟨fp', h', ?_, ?_⟩
  · intro x hx
    rcases hn' x hx with h1 | h1
    · exact hn x h1
    · right; have := k.size; omega
  · exact k.trans k' fun j hj m => (hn j m).resolve_right (by omega)

theorem OwnF.tab {o w0 w b S} (h : OwnF o w0 w b S) (hT : TabAt w0) (ho : 0 ∉ o) : TabAt w := hT.kept h.kept ho

theorem TabAt.pos {w : World} (h : TabAt w) : 0 < w.heap.size := by
  have := h 0 (by decide)
  simp only [World.cell?] at this
  split at this
  · rename_i c _ _ hh
    exact (Array.getElem?_eq_some_iff.1 hh).1
  · cases this

theorem OwnF.ne0 {o w0 w b S} (h : OwnF o w0 w b S) (hT : TabAt w0) (ho : 0 ∉ o) : b ≠ 0 := by
  obtain ⟨fp, h', hn, _⟩ := h
  have := hn b h'.self
  have := hT.pos
  intro e
  rcases hn b h'.self with h1 | h1
  · exact ho (e ▸ h1)
  · omega

theorem own_new {w0 w : World} (k : Kept [] w0 w) (size : Int) (h0 : 1 ≤ size) (h1 : size ≤ 65536) :
    Calls Tryd.prog 22 #[.int .i64 size] w fun e w' => ∃ b, e = .returned (.tuple #[.pointer (some ⟨b, 0, none⟩), .int .i64 0]) ∧ Own w0 w' b ⟨size.toNat, fun _ => none, 0⟩ := by
  refine (new_arena w size h0 h1).mono ?_
  rintro e w' ⟨rfl, hA, hK⟩
  exact ⟨_, rfl, _, hA, by simp; exact k.size, k.tr hK⟩

theorem own_alloc {o w0 w b} {S : Ar} (h : OwnF o w0 w b S) (hT : TabAt w0) (c : Nat) (hc : c < S.size) (hg : S.get c = none) (hleast : ∀ d, d < c → (S.get d).isSome = true) (ho : 0 ∉ o := by simp) :
    Calls Tryd.prog 35 #[.pointer (some ⟨b, 0, none⟩)] w fun e w' => e = .returned (.tuple #[.int .i64 c, .int .i64 0]) ∧ OwnF o w0 w' b (S.put c 0) := by
  have hT' := h.tab hT ho
  have hb := h.ne0 hT ho
  obtain ⟨fp, hA, hn, k⟩ := h
  refine (alloc_arena hA hT' hb c hc hg hleast).mono ?_
  rintro e w' ⟨rfl, op⟩
  exact ⟨rfl, OwnF.op hn k op⟩

theorem own_alloc_full {o w0 w b} {S : Ar} (h : OwnF o w0 w b S) (hfull : ∀ c, c < S.size → (S.get c).isSome = true) :
    Calls Tryd.prog 35 #[.pointer (some ⟨b, 0, none⟩)] w fun e w' => e = .returned (.tuple #[.int .i64 0, .int .i64 31]) ∧ OwnF o w0 w' b S := by
  obtain ⟨fp, hA, hn, k⟩ := h
  refine (alloc_arena_full hA hfull).mono ?_
  rintro e w' ⟨rfl, op⟩
  exact ⟨rfl, OwnF.op hn k op⟩

theorem own_load {o w0 w b} {S : Ar} (h : OwnF o w0 w b S) (c : Nat) (v : Int) (hg : S.get c = some v) :
    Calls Tryd.prog 27 #[.pointer (some ⟨b, 0, none⟩), .int .i64 c] w fun e w' => e = .returned (.tuple #[.int .u64 v, .int .i64 0]) ∧ OwnF o w0 w' b S.step := by
  obtain ⟨fp, hA, hn, k⟩ := h
  refine (load_arena hA c v hg).mono ?_
  rintro e w' ⟨rfl, op⟩
  exact ⟨rfl, OwnF.op hn k op⟩

theorem own_store {o w0 w b} {S : Ar} (h : OwnF o w0 w b S) (c : Nat) (v x : Int) (hg : S.get c = some v) :
    Calls Tryd.prog 45 #[.pointer (some ⟨b, 0, none⟩), .int .i64 c, .int .u64 x] w fun e w' => e = .returned (.int .i64 0) ∧ OwnF o w0 w' b (S.step.put c x) := by
  obtain ⟨fp, hA, hn, k⟩ := h
  refine (store_arena hA c v x hg).mono ?_
  rintro e w' ⟨rfl, op⟩
  exact ⟨rfl, OwnF.op hn k op⟩

theorem own_cas {o w0 w b} {S : Ar} (h : OwnF o w0 w b S) (c : Nat) (v x : Int) (hg : S.get c = some v) :
    Calls Tryd.prog 46 #[.pointer (some ⟨b, 0, none⟩), .int .i64 c, .int .u64 v, .int .u64 x] w fun e w' => e = .returned (.tuple #[.bool true, .int .i64 0]) ∧ OwnF o w0 w' b (S.step.put c x) := by
  obtain ⟨fp, hA, hn, k⟩ := h
  refine (cas_arena hA c v x hg).mono ?_
  rintro e w' ⟨rfl, op⟩
  exact ⟨rfl, OwnF.op hn k op⟩

theorem own_cas_not {o w0 w b} {S : Ar} (h : OwnF o w0 w b S) (c : Nat) (v old x : Int) (hg : S.get c = some v) (hne : v ≠ old) :
    Calls Tryd.prog 46 #[.pointer (some ⟨b, 0, none⟩), .int .i64 c, .int .u64 old, .int .u64 x] w fun e w' => e = .returned (.tuple #[.bool false, .int .i64 0]) ∧ OwnF o w0 w' b S.step := by
  obtain ⟨fp, hA, hn, k⟩ := h
  refine (cas_arena_not hA c v old x hg hne).mono ?_
  rintro e w' ⟨rfl, op⟩
  exact ⟨rfl, OwnF.op hn k op⟩

theorem own_free {o w0 w b} {S : Ar} (h : OwnF o w0 w b S) (c : Nat) (v : Int) (hg : S.get c = some v) :
    Calls Tryd.prog 42 #[.pointer (some ⟨b, 0, none⟩), .int .i64 c] w fun e w' => e = .returned (.int .i64 0) ∧ OwnF o w0 w' b (S.drop c) := by
  obtain ⟨fp, hA, hn, k⟩ := h
  refine (free_arena hA c v hg).mono ?_
  rintro e w' ⟨rfl, op⟩
  exact ⟨rfl, OwnF.op hn k op⟩

theorem own_free_no {o w0 w b} {S : Ar} (h : OwnF o w0 w b S) (c : Int) (h0 : -9223372036854775808 ≤ c) (h1 : c < 9223372036854775808) (hn : c < 0 ∨ S.get c.toNat = none) :
    Calls Tryd.prog 42 #[.pointer (some ⟨b, 0, none⟩), .int .i64 c] w fun e w' => e = .returned (.int .i64 30) ∧ w = w' := by
  obtain ⟨fp, hA, _, k⟩ := h
  exact free_arena_no hA c h0 h1 hn

theorem own_used {o w0 w b} {S : Ar} (h : OwnF o w0 w b S) :
    Calls Tryd.prog 13 #[.pointer (some ⟨b, 0, none⟩)] w fun e w' => e = .returned (.int .i64 (cnt S.get S.size)) ∧ w = w' := by
  obtain ⟨fp, hA, _, k⟩ := h
  exact used_arena hA

end Go.Proofs.YtpckpgdkfimapaaDoor
