/- The walk of Forget. -/
import Derived.Test.YtlaffmdflleeeaaDoorStoreTxn
namespace Go.Proofs.YtlaffmdflleeeaaDoor
open Go Go.RowKit
set_option linter.unusedVariables false

variable {o : List Nat} {w0 w : World} {b : Nat} {x : StIx} {A : ASt}

/-- A transaction that is no more. -/
def ASt.goneT (A : ASt) (i : Nat) : ASt := { A with T := fun j => if j = i then ((A.T j).1, true) else A.T j }

theorem goneT_txn (A : ASt) (i j : Nat) : (A.goneT i).txn j = (A.txn j && decide (j ≠ i)) := by
  unfold ASt.txn ASt.goneT
  by_cases e : j = i <;> simp [e]

theorem goneT_at {A : ASt} {i : Nat} {l : Loc} {v : Int} (h : (A.goneT i).at_ l = some v) : A.at_ l = some v ∧ l ≠ .state i := by
  cases l with
  | head j => exact ⟨h, by simp⟩
  | lock j => exact ⟨h, by simp⟩
  | begin_ j => exact ⟨h, by simp⟩
  | end_ j => exact ⟨h, by simp⟩
  | next j => exact ⟨h, by simp⟩
  | state j =>
    simp only [ASt.at_, goneT_txn] at h ⊢
    by_cases e : j = i
    · subst e; simp at h
    · simp only [ASt.goneT, if_neg e] at h
      simp [e] at h
      exact ⟨by simpa using h, by simpa using e⟩

theorem cntB_goneT {A : ASt} {i : Nat} (n : Nat) (hi : i < n) (hg : (A.T i).2 = false) : cntB (fun j => !((A.goneT i).T j).2) n + 1 = cntB (fun j => !(A.T j).2) n := by
  have same : ∀ m, m ≤ i → cntB (fun j => !((A.goneT i).T j).2) m = cntB (fun j => !(A.T j).2) m := by
    intro m
    induction m with
    | zero => intro _; rfl
    | succ m ih => intro hm; unfold cntB; rw [ih (by omega)]; simp only [ASt.goneT, if_neg (show ¬ m = i by omega)]
  induction n with
  | zero => omega
  | succ n ih =>
    unfold cntB
    by_cases e : i = n
    · subst e
      rw [same i (Nat.le_refl _), hg]; simp [ASt.goneT]
    · have := ih (by omega)
      simp only [ASt.goneT, if_neg (show ¬ n = i from fun h => e h.symm)] at this ⊢
      omega

theorem StRep.goneT {S : Ar} {C : Cells} {A : ASt} {i : Nat} (h : StRep S C A) (hv : A.txn i = true) (hlt : ∀ c, (S.get c).isSome = true → c < S.size) :
    (S.get (C.t i)).isSome = true ∧ StRep (dropAll S [C.t i]) C (A.goneT i) := by
  have hi := txn_lt hv
  have hgone : (A.T i).2 = false := by unfold ASt.txn at hv; simp at hv; exact hv.2
  have a1 : A.at_ (.state i) = some (A.T i).1 := by show (if A.txn i = true then _ else none) = _; rw [if_pos hv]
  have g1 : S.get (C.t i) = some (A.T i).1 := h.has _ _ a1
  have hsm : (S.get (C.t i)).isSome = true := by rw [g1]; rfl
  have hout : ∀ l v, (A.goneT i).at_ l = some v → C.of l ∉ [C.t i] := by
    intro l v hl hm
    obtain ⟨k0, k1⟩ := goneT_at hl
    exact k1 (h.inj l (.state i) (by rw [k0]; rfl) (by rw [a1]; rfl) (List.mem_singleton.1 hm))
  have down : ∀ l, ((A.goneT i).at_ l).isSome = true → (A.at_ l).isSome = true := fun l hl => by
    obtain ⟨v, hv⟩ := Option.isSome_iff_exists.1 hl
    rw [(goneT_at hv).1]; rfl
  refine ⟨hsm, ⟨by rw [dropAll_size]; exact h.size, h.big, by rw [dropAll_steps]; exact h.steps, fun l v hl => ?_, fun l l' ha hb e => h.inj l l' (down l ha) (down l' hb) e, ?_, fun l v hl => h.word l v (goneT_at hl).1, fun j v hl => h.headLe j v (goneT_at hl).1, fun j v hl => h.nextLe j v (goneT_at hl).1⟩⟩
  · rw [dropAll_get, if_neg (hout l v hl)]
    exact h.has l v (goneT_at hl).1
  · rw [dropAll_size]
    have h1 := cnt_dropAll S [C.t i] S.size (by simp) (fun c hc => by rw [List.mem_singleton.1 hc]; exact ⟨hsm, hlt _ hsm⟩)
    have h2 := cntB_goneT (A := A) A.nT hi hgone
    have h3 := h.count
    simp only [List.length_cons, List.length_nil] at h1
    unfold ASt.used at h3 ⊢
    show cnt _ _ = 2 * A.nN + 3 * cntB (fun j => !(A.V j).gone) A.nV + cntB (fun j => !((A.goneT i).T j).2) A.nT
    omega

theorem stp_goneT (h : Has o w0 w (StP b x A)) {i : Nat} (hi : i < A.nT) {g cap : Nat} (hvv : x.tv = .slice (some ⟨g, 0, none⟩) A.nT cap) :
    (∃ u, w.cell? ⟨g, i * 2 + 1, none⟩ = some u) ∧ w.frozen? ⟨g, i * 2 + 1, none⟩ = false ∧ Has o w0 (w.setCell ⟨g, i * 2 + 1, none⟩ (.bool true)) (StP b x (A.goneT i)) := by
  obtain ⟨o1, h1, _, _, b1⟩ := h.right
  obtain ⟨o2, h2, _, _, b2⟩ := h1.right
  obtain ⟨o3, h3, _, _, b3⟩ := h2.right
  obtain ⟨g', cap', e, hc, hf, hput⟩ := h3.rowsAt (txnF_len _ _) hi
  rw [hvv] at e
  obtain ⟨rfl, rfl⟩ : g = g' ∧ cap = cap' := by simpa using e
  refine ⟨⟨_, hc 1 _ rfl⟩, hf _, ?_⟩
  have h4 := hput 1 (.bool true) (by omega)
  have e2 : (fun d => if d = i then (txnF x.C A i).set 1 (.bool true) else txnF x.C A d) = txnF x.C (A.goneT i) := funext fun d => by
    unfold txnF ASt.goneT
    by_cases ed : d = i
    · subst ed; simp
    · simp [ed]
  rw [e2] at h4
  exact b1 _ _ (b2 _ _ (b3 _ _ h4))

theorem numsMade1 (w : World) (c1 n : Nat) (hn : n = w.heap.size) : Has [] w (w.alloc (.cells #[.int .i64 (c1 : Nat)] 3)) (.nums (.slice (some ⟨n, 0, none⟩) 1 1) [c1]) := by
  subst hn
  have h := Has.made (w := w) 3 #[.int .i64 (c1 : Nat)] (by simp only [maxLen]; simp)
  exact h

set_option maxHeartbeats 4000000 in
set_option maxRecDepth 100000 in
theorem forget_at (h : Has o w0 w (.store b A)) (i : Nat) (hv : A.txn i = true) :
    Calls Tryd.prog 23 #[.pointer (some ⟨b, 0, none⟩), .int .i64 ((i : Int) + 1)] w fun e w' => e = .returned (.int .i64 0) ∧ Has o w0 w' (.store b (A.goneT i)) := by
  obtain ⟨x, hr, h⟩ := h.stOpen
  have hi := txn_lt hv
  obtain ⟨g, cap, hvv⟩ := StP.txnSlice h hi
  have HT := Lib.hid (txn_at h i hv hvv)
  obtain ⟨hsm, hrep⟩ := hr.goneT hv (stp_lt h)
  obtain ⟨⟨u4, x4⟩, z4, hg⟩ := stp_goneT h hi hvv
  obtain ⟨c1, _⟩ := StP.txnCells hg (A := A.goneT i) hi hvv
  have hm := hg.beside (numsMade1 _ (x.C.t i) w.heap.size (by simp))
  have HGV := Lib.hid (give_walk hm (by simp) (fun c hc => by rw [List.mem_singleton.1 hc]; exact hsm))
  have HSM := Lib.hid hsm
  have HREP := Lib.hid hrep
  clear h hr hv hsm hrep hg hvv hm
  go_enter Tryd.func23, Tryd.ntmps23
  go_wp2_with fail
  refine HT.out.mono ?_
  rintro e w' ⟨rfl, rfl⟩
  go_wp2_with fail
  refine HGV.out.mono ?_
  rintro e w4 ⟨rfl, hX4⟩
  have HX4 := Lib.hid hX4.fst
  clear hX4
  go_wp2_with fail
  go_ret
  exact ⟨rfl, HX4.out.stShut HREP.out⟩
end Go.Proofs.YtlaffmdflleeeaaDoor
