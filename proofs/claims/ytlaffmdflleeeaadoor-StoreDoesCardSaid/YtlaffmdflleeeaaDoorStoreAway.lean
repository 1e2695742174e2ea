/- The walk of away, and what it leaves; the walk of Chain. -/
import Derived.Test.YtlaffmdflleeeaaDoorStoreChain
namespace Go.Proofs.YtlaffmdflleeeaaDoor
open Go Go.RowKit
set_option linter.unusedVariables false

variable {o : List Nat} {w0 w : World} {b : Nat} {x : StIx} {A : ASt}

theorem chainF_at (A : ASt) (st : Int) (f : Nat) (n : Int) : chainF (A.at st) f n = chainF A f n := by
  induction f generalizing n with
  | zero => rfl
  | succ f ih =>
    show (if 1 ≤ n ∧ A.ver (n - 1).toNat = true then n.toNat :: chainF (A.at st) f (A.V (n - 1).toNat).next else []) = if 1 ≤ n ∧ A.ver (n - 1).toNat = true then n.toNat :: chainF A f (A.V (n - 1).toNat).next else []
    rw [ih]

set_option maxHeartbeats 4000000 in
set_option maxRecDepth 100000 in
theorem Chain_at (h : Has o w0 w (.store b A)) (i : Nat) (v : Int) (hl : A.at_ (.head i) = some v) (hV : A.nV ≤ 1000000000) :
    Calls Tryd.prog 18 #[.pointer (some ⟨b, 0, none⟩), .int .i64 ((i : Int) + 1)] w fun e w' => ∃ lv st, e = .returned lv ∧ Has o w0 w' ((Part.store b (A.at st)).sep (.nums lv (chainF A v.toNat v))) := by
  obtain ⟨x, hr, h⟩ := h.stOpen
  have hlt := at_head hl
  obtain ⟨g, cap, hvv⟩ := StP.nodeSlice h hlt
  obtain ⟨c0, _, _, _⟩ := StP.fields h
  obtain ⟨c1, _⟩ := StP.nodeCells h hlt hvv
  have hw9 := hr.word _ v hl
  have hle := hr.headLe i v hl
  have HV := Lib.hid (node_at h i hlt hvv)
  have HL := Lib.hid (fun (w' : World) (hw : Has o w0 w' (StP b x A)) => stp_load hw hr (.head i) v hl)
  have HX := Lib.hid h
  have HR := Lib.hid hr
  have HVV := Lib.hid hvv
  have e9 : IntKind.i64.wrap v = v := by unfold IntKind.wrap; simp [IntKind.bits, IntKind.signed]; omega
  clear h hr hl hvv
  go_enter Tryd.func18, Tryd.ntmps18
  go_wp2_with fail
  refine HV.out.mono ?_
  rintro e w' ⟨rfl, rfl⟩
  go_wp2_with fail
  go_region_held3 (fun w' => w'.cell? ⟨b, 0, none⟩ = some (.pointer (some ⟨x.ab, 0, none⟩)) ∧ w'.cell? ⟨g, i * 2, none⟩ = some (.int .i64 ((x.C.n i).1)))
    (first | exact ⟨c0, c1⟩ | exact ⟨d0, d1⟩)
    (first | (go_at_call 41
              refine (HL.out _ (HX.out.quiet ((Kept.refl _ _).drew))).mono ?_
              rintro e w4 ⟨rfl, hX4⟩
              obtain ⟨d0, _, _, _⟩ := StP.fields hX4
              obtain ⟨d1, _⟩ := StP.nodeCells hX4 hlt HVV.out
              have HX4 := Lib.hid hX4
              clear hX4))
  have HCH := Lib.hid (chain_walk HX4.out HR.out.step v hle hV)
  go_wp2_with fail
  refine HCH.out.mono ?_
  rintro e w7 ⟨lv, S, st, rfl, hr7, hX7⟩
  have HX7 := Lib.hid hX7
  have HR7 := Lib.hid hr7
  clear hX7 hr7
  go_wp2_with fail
  go_ret
  refine ⟨_, st, rfl, ?_⟩
  have h8 := HX7.out
  rw [show A.step = A.at (wrap64 (A.steps + 1)) from rfl, chainF_at] at h8
  obtain ⟨o9, h9, _, _, b9⟩ := h8.left
  exact b9 _ _ (Has.stShut (x := { x with S := S }) HR7.out h9)

/-- A version that is no more. -/
def ASt.goneV (A : ASt) (i : Nat) : ASt := { A with V := fun j => if j = i then { A.V j with gone := true } else A.V j }

theorem goneV_ver (A : ASt) (i j : Nat) : (A.goneV i).ver j = (A.ver j && decide (j ≠ i)) := by
  unfold ASt.ver ASt.goneV
  by_cases e : j = i <;> simp [e]

theorem goneV_at {A : ASt} {i : Nat} {l : Loc} {v : Int} (h : (A.goneV i).at_ l = some v) : A.at_ l = some v ∧ l ≠ .begin_ i ∧ l ≠ .end_ i ∧ l ≠ .next i := by
  cases l with
  | head j => exact ⟨h, by simp, by simp, by simp⟩
  | lock j => exact ⟨h, by simp, by simp, by simp⟩
  | state j => exact ⟨h, by simp, by simp, by simp⟩
  | begin_ j =>
    simp only [ASt.at_, goneV_ver] at h ⊢
    by_cases e : j = i
    · subst e; simp at h
    · simp only [ASt.goneV, if_neg e] at h
      simp [e] at h
      exact ⟨by simpa using h, by simpa using e, by simp, by simp⟩
  | end_ j =>
    simp only [ASt.at_, goneV_ver] at h ⊢
    by_cases e : j = i
    · subst e; simp at h
    · simp only [ASt.goneV, if_neg e] at h
      simp [e] at h
      exact ⟨by simpa using h, by simp, by simpa using e, by simp⟩
  | next j =>
    simp only [ASt.at_, goneV_ver] at h ⊢
    by_cases e : j = i
    · subst e; simp at h
    · simp only [ASt.goneV, if_neg e] at h
      simp [e] at h
      exact ⟨by simpa using h, by simp, by simp, by simpa using e⟩

theorem cnt_drop {get : Nat → Option Int} {c : Nat} (n : Nat) (hc : c < n) (h : (get c).isSome = true) : cnt (fun d => if d = c then none else get d) n + 1 = cnt get n := by
  have same : ∀ m, m ≤ c → cnt (fun d => if d = c then none else get d) m = cnt get m := by
    intro m
    induction m with
    | zero => intro _; rfl
    | succ m ih => intro hm; unfold cnt; rw [ih (by omega)]; simp only [if_neg (show ¬ m = c by omega)]
  induction n with
  | zero => omega
  | succ n ih =>
    unfold cnt
    by_cases e : c = n
    · subst e
      rw [same c (Nat.le_refl _), if_pos rfl, h]; simp
    · have := ih (by omega)
      simp only [if_neg (show ¬ n = c from fun h => e h.symm)]
      omega

theorem cnt_dropAll (S : Ar) (cs : List Nat) (n : Nat) (hd : cs.Nodup) (hs : ∀ c ∈ cs, (S.get c).isSome = true ∧ c < n) : cnt (dropAll S cs).get n + cs.length = cnt S.get n := by
  induction cs generalizing S with
  | nil => rfl
  | cons c cs ih =>
    have hc := hs c (by simp)
    have hnd := List.nodup_cons.1 hd
    have h1 := ih (S.drop c) hnd.2 (fun d hm => by
      have := hs d (by simp [hm])
      refine ⟨?_, this.2⟩
      show (if d = c then none else S.get d).isSome = true
      rw [if_neg (fun e : d = c => hnd.1 (by rw [← e]; exact hm))]; exact this.1)
    have h2 : cnt (S.drop c).get n + 1 = cnt S.get n := cnt_drop n hc.2 hc.1
    show cnt (dropAll (S.drop c) cs).get n + (cs.length + 1) = _
    omega

theorem cntB_gone {A : ASt} {i : Nat} (n : Nat) (hi : i < n) (hg : (A.V i).gone = false) : cntB (fun j => !((A.goneV i).V j).gone) n + 1 = cntB (fun j => !(A.V j).gone) n := by
  have same : ∀ m, m ≤ i → cntB (fun j => !((A.goneV i).V j).gone) m = cntB (fun j => !(A.V j).gone) m := by
    intro m
    induction m with
    | zero => intro _; rfl
    | succ m ih => intro hm; unfold cntB; rw [ih (by omega)]; simp only [ASt.goneV, if_neg (show ¬ m = i by omega)]
  induction n with
  | zero => omega
  | succ n ih =>
    unfold cntB
    by_cases e : i = n
    · subst e
      rw [same i (Nat.le_refl _), hg]; simp [ASt.goneV]
    · have := ih (by omega)
      simp only [ASt.goneV, if_neg (show ¬ n = i from fun h => e h.symm)] at this ⊢
      omega

/-- A cell that is taken lies in the arena. -/
theorem StRep.goneV {S : Ar} {C : Cells} {A : ASt} {i : Nat} (h : StRep S C A) (hv : A.ver i = true) (hlt : ∀ c, (S.get c).isSome = true → c < S.size) :
    [(C.v i).1, (C.v i).2.1, (C.v i).2.2].Nodup ∧ (∀ c ∈ [(C.v i).1, (C.v i).2.1, (C.v i).2.2], (S.get c).isSome = true) ∧ StRep (dropAll S [(C.v i).1, (C.v i).2.1, (C.v i).2.2]) C (A.goneV i) := by
  have hi := ver_lt hv
  have hgone : (A.V i).gone = false := by unfold ASt.ver at hv; simp at hv; exact hv.2
  have a1 : A.at_ (.begin_ i) = some (A.V i).begin_ := by show (if A.ver i = true then _ else none) = _; rw [if_pos hv]
  have a2 : A.at_ (.end_ i) = some (A.V i).end_ := by show (if A.ver i = true then _ else none) = _; rw [if_pos hv]
  have a3 : A.at_ (.next i) = some (A.V i).next := by show (if A.ver i = true then _ else none) = _; rw [if_pos hv]
  have g1 := h.has _ _ a1
  have g2 := h.has _ _ a2
  have g3 := h.has _ _ a3
  have n12 : (C.v i).1 ≠ (C.v i).2.1 := fun e => by have := h.inj (.begin_ i) (.end_ i) (by rw [a1]; rfl) (by rw [a2]; rfl) e; cases this
  have n13 : (C.v i).1 ≠ (C.v i).2.2 := fun e => by have := h.inj (.begin_ i) (.next i) (by rw [a1]; rfl) (by rw [a3]; rfl) e; cases this
  have n23 : (C.v i).2.1 ≠ (C.v i).2.2 := fun e => by have := h.inj (.end_ i) (.next i) (by rw [a2]; rfl) (by rw [a3]; rfl) e; cases this
  have hnd : [(C.v i).1, (C.v i).2.1, (C.v i).2.2].Nodup := by simp [n12, n13, n23]
  have hsm : ∀ c ∈ [(C.v i).1, (C.v i).2.1, (C.v i).2.2], (S.get c).isSome = true := by
    intro c hc
    simp only [List.mem_cons, List.not_mem_nil, or_false] at hc
    rcases hc with rfl | rfl | rfl
    · rw [show S.get (C.v i).1 = _ from g1]; rfl
    · rw [show S.get (C.v i).2.1 = _ from g2]; rfl
    · rw [show S.get (C.v i).2.2 = _ from g3]; rfl
  have hout : ∀ l v, (A.goneV i).at_ l = some v → C.of l ∉ [(C.v i).1, (C.v i).2.1, (C.v i).2.2] := by
    intro l v hl hm
    obtain ⟨k0, k1, k2, k3⟩ := goneV_at hl
    simp only [List.mem_cons, List.not_mem_nil, or_false] at hm
    rcases hm with e | e | e
    · exact k1 (h.inj l (.begin_ i) (by rw [k0]; rfl) (by rw [a1]; rfl) e)
    · exact k2 (h.inj l (.end_ i) (by rw [k0]; rfl) (by rw [a2]; rfl) e)
    · exact k3 (h.inj l (.next i) (by rw [k0]; rfl) (by rw [a3]; rfl) e)
  have down : ∀ l, ((A.goneV i).at_ l).isSome = true → (A.at_ l).isSome = true := fun l hl => by
    obtain ⟨v, hv⟩ := Option.isSome_iff_exists.1 hl
    rw [(goneV_at hv).1]; rfl
  refine ⟨hnd, hsm, ⟨by rw [dropAll_size]; exact h.size, h.big, by rw [dropAll_steps]; exact h.steps, fun l v hl => ?_, fun l l' ha hb e => h.inj l l' (down l ha) (down l' hb) e, ?_, fun l v hl => h.word l v (goneV_at hl).1, fun j v hl => h.headLe j v (goneV_at hl).1, fun j v hl => h.nextLe j v (goneV_at hl).1⟩⟩
  · rw [dropAll_get, if_neg (hout l v hl)]
    exact h.has l v (goneV_at hl).1
  · rw [dropAll_size]
    have h1 := cnt_dropAll S _ S.size hnd (fun c hc => ⟨hsm c hc, hlt c (hsm c hc)⟩)
    have h2 := cntB_gone (A := A) A.nV hi hgone
    have h3 := h.count
    simp only [List.length_cons, List.length_nil] at h1
    unfold ASt.used at h3 ⊢
    show _ = 2 * A.nN + 3 * cntB (fun j => !((A.goneV i).V j).gone) A.nV + _
    show cnt _ _ = 2 * A.nN + 3 * cntB (fun j => !((A.goneV i).V j).gone) A.nV + cntB (fun j => !(A.T j).2) A.nT
    omega

theorem stp_lt (h : Has o w0 w (StP b x A)) : ∀ c, (x.S.get c).isSome = true → c < x.S.size := by
  obtain ⟨o1, h1, _⟩ := h.left
  obtain ⟨o2, h2, _⟩ := h1.right
  obtain ⟨_, fp, ⟨hv, hs, ws, low, used, _, _, hi⟩, _⟩ := h2.whenOut
  intro c hc
  rw [hi.get c] at hc
  by_cases e : (ws (c / 64)).testBit (c % 64) = true
  · have := hi.supp c e
    have := hi.cap
    omega
  · rw [if_neg e] at hc; cases hc

theorem numsMade (w : World) (c1 c2 c3 : Nat) : Has [] w (w.alloc (.cells #[.int .i64 (c1 : Nat), .int .i64 (c2 : Nat), .int .i64 (c3 : Nat)] 3)) (.nums (.slice (some ⟨w.heap.size, 0, none⟩) 3 3) [c1, c2, c3]) := by
  have h := Has.made (w := w) 3 #[.int .i64 (c1 : Nat), .int .i64 (c2 : Nat), .int .i64 (c3 : Nat)] (by simp only [maxLen]; simp)
  exact h

/-- The row of versions behind one's end. -/
theorem stp_gone (h : Has o w0 w (StP b x A)) {i : Nat} (hi : i < A.nV) {g cap : Nat} (hvv : x.vv = .slice (some ⟨g, 0, none⟩) A.nV cap) :
    (∃ u, w.cell? ⟨g, i * 5 + 4, none⟩ = some u) ∧ w.frozen? ⟨g, i * 5 + 4, none⟩ = false ∧ Has o w0 (w.setCell ⟨g, i * 5 + 4, none⟩ (.bool true)) (StP b x (A.goneV i)) := by
  obtain ⟨o1, h1, _, _, b1⟩ := h.right
  obtain ⟨o2, h2, _, _, b2⟩ := h1.right
  obtain ⟨o3, h3, _, _, b3⟩ := h2.left
  obtain ⟨g', cap', e, hc, hf, hput⟩ := h3.rowsAt (verF_len _ _) hi
  rw [hvv] at e
  obtain ⟨rfl, rfl⟩ : g = g' ∧ cap = cap' := by simpa using e
  refine ⟨⟨_, hc 4 _ rfl⟩, hf _, ?_⟩
  have h4 := hput 4 (.bool true) (by omega)
  have e2 : (fun d => if d = i then (verF x.C A i).set 4 (.bool true) else verF x.C A d) = verF x.C (A.goneV i) := funext fun d => by
    unfold verF ASt.goneV
    by_cases ed : d = i
    · subst ed; simp
    · simp [ed]
  rw [e2] at h4
  exact b1 _ _ (b2 _ _ (b3 _ _ h4))

set_option maxHeartbeats 4000000 in
set_option maxRecDepth 100000 in
theorem away_walk (h : Has o w0 w (StP b x A)) (hr : StRep x.S x.C A) (i : Nat) (hv : A.ver i = true) {g cap : Nat} (hvv : x.vv = .slice (some ⟨g, 0, none⟩) A.nV cap) :
    Calls Tryd.prog 45 #[.pointer (some ⟨b, 0, none⟩), .pointer (some ⟨g, i * 5, none⟩)] w fun e w' => e = .returned (.tuple #[]) ∧ ∃ S, StRep S x.C (A.goneV i) ∧ Has o w0 w' (StP b { x with S := S } (A.goneV i)) := by
  have hi := ver_lt hv
  have hlt := stp_lt h
  obtain ⟨hnd, hsm, hrep⟩ := hr.goneV hv hlt
  obtain ⟨⟨u4, x4⟩, z4, hg⟩ := stp_gone h hi hvv
  obtain ⟨_, c1, c2, c3⟩ := StP.verCells hg (A := A.goneV i) hi hvv
  have HG := Lib.hid hg
  have HND := Lib.hid hnd
  have HSM := Lib.hid hsm
  have HREP := Lib.hid hrep
  clear h hr hv hnd hsm hrep hg hlt
  go_enter Tryd.func45, Tryd.ntmps45
  go_wp2_with fail
  generalize w.setCell ⟨g, i * 5 + 4, none⟩ (.bool true) = wg at *
  have HM := Lib.hid ((HG.out.quiet ((Kept.refl [] wg).drew)).beside (numsMade wg.drew (x.C.v i).1 (x.C.v i).2.1 (x.C.v i).2.2))
  have HGV := Lib.hid (give_walk HM.out HND.out HSM.out)
  go_region_held3 (fun w' => w'.cell? ⟨g, i * 5 + 1, none⟩ = some (.int .i64 ((x.C.v i).1 : Nat)) ∧ w'.cell? ⟨g, i * 5 + 2, none⟩ = some (.int .i64 ((x.C.v i).2.1 : Nat)) ∧ w'.cell? ⟨g, i * 5 + 3, none⟩ = some (.int .i64 ((x.C.v i).2.2 : Nat)))
    (first | exact ⟨c1, c2, c3⟩ | exact ⟨d1, d2, d3⟩ | go_keep)
    (first | (go_at_call 47
              refine HGV.out.mono ?_
              rintro e w4 ⟨rfl, hX4⟩
              have hX5 := hX4.fst
              obtain ⟨_, d1, d2, d3⟩ := StP.verCells hX5 (A := A.goneV i) hi hvv
              have HX4 := Lib.hid hX5
              clear hX4 hX5))
  go_end0
  exact ⟨rfl, _, HREP.out, HX4.out⟩
end Go.Proofs.YtlaffmdflleeeaaDoor
