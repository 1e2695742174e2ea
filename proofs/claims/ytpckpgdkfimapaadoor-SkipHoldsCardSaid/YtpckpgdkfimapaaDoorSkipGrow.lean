/- A tower's cells taken and given back. -/
import Derived.Test.YtpckpgdkfimapaaDoorSkipMore
namespace Go.Proofs.YtpckpgdkfimapaaDoor
open Go Go.RowKit
set_option linter.unusedVariables false

variable {o : List Nat} {w0 w : World} {b : Nat} {x : SkIx} {T : ASk} {ob : Nat} {q : ASop}

theorem sk_alloc (h : Has o w0 w (SkP b x T)) (hT : TabAt w0) (ho : 0 ∉ o) (hfree : cnt x.S.get x.S.size < x.S.size) :
    Calls Tryd.prog 35 #[.pointer (some ⟨T.ab, 0, none⟩)] w fun e w' => ∃ c, e = .returned (.tuple #[.int .i64 (c : Nat), .int .i64 0]) ∧ c < x.S.size ∧ x.S.get c = none ∧ Has o w0 w' (SkP b { x with S := x.S.put c 0 } T) := by
  obtain ⟨c, hc, hg, hl⟩ := least_free x.S.get x.S.size hfree
  have hTw : TabAt w := hT.kept h.keeps ho
  obtain ⟨o', hO, p, back⟩ := skp_arena h
  refine (own_alloc hO hTw c hc hg hl (tab_out hT ho p)).mono ?_
  rintro e w' ⟨rfl, h'⟩
  exact ⟨c, rfl, hc, hg, back _ _ T rfl rfl h'⟩
theorem sk_free (h : Has o w0 w (SkP b x T)) (c : Nat) (u : Int) (hg : x.S.get c = some u) :
    Calls Tryd.prog 42 #[.pointer (some ⟨T.ab, 0, none⟩), .int .i64 (c : Nat)] w fun e w' => e = .returned (.int .i64 0) ∧ Has o w0 w' (SkP b { x with S := x.S.drop c } T) := by
  obtain ⟨o', hO, _, back⟩ := skp_arena h
  refine (own_free hO c u hg).mono ?_
  rintro e w' ⟨rfl, h'⟩
  exact ⟨rfl, back _ _ T rfl rfl h'⟩

theorem ndAt_put (n : ANd) (c : Nat → Nat) (j cc : Nat) (hj : j < n.h) (h8 : n.h ≤ 8) : ∀ i, i < 28 → upd (ndAt n c) (19 + j) (.int .i64 (cc : Nat)) i = ndAt n (fun m => if m = j then cc else c m) i := fun i hi => by
  unfold upd
  by_cases e : i = 19 + j
  · subst e
    unfold ndAt
    rw [if_pos rfl, if_neg (by omega), if_neg (by omega), if_neg (by omega), if_neg (by omega), if_pos (by omega), if_pos (by omega)]
    simp
  · rw [if_neg e]
    unfold ndAt
    by_cases h1 : i = 0
    · rw [if_pos h1, if_pos h1]
    rw [if_neg h1, if_neg h1]
    by_cases h2 : i < 17
    · rw [if_pos h2, if_pos h2]
    rw [if_neg h2, if_neg h2]
    by_cases h3 : i = 17
    · rw [if_pos h3, if_pos h3]
    rw [if_neg h3, if_neg h3]
    by_cases h4 : i = 18
    · rw [if_pos h4, if_pos h4]
    rw [if_neg h4, if_neg h4]
    by_cases h5 : i < 27
    · rw [if_pos h5, if_pos h5]
      dsimp only
      rw [if_neg (show ¬i - 19 = j by omega)]
    · rw [if_neg h5, if_neg h5]
theorem ndAt_tower (n : ANd) (c : Nat → Nat) {j : Nat} (hj : j < n.h) (h8 : n.h ≤ 8) : ndAt n c (19 + j) = .int .i64 (c j : Nat) := by
  unfold ndAt
  rw [if_neg (by omega), if_neg (by omega), if_neg (by omega), if_neg (by omega), if_pos (by omega), show 19 + j - 19 = j by omega, if_pos hj]
theorem ndAt_high (n : ANd) (c : Nat → Nat) : ndAt n c 27 = .int .i64 (n.h : Nat) := rfl

set_option maxHeartbeats 4000000 in
set_option maxRecDepth 100000 in
/-- A new node's cells. -/
theorem grow_walk {nb : Nat} {key wd : ByteArray} {ref : Int} {h9 : Nat} (h : Has o w0 w ((SkP b x T).sep (.node nb ⟨key, wd, ref, h9, fun _ => 0, false⟩ fun _ => 0))) (hr : SkRep x.S x.C T) (h8 : h9 ≤ 8) (hfit : T.used + h9 ≤ T.size) (hT : TabAt w0) (ho : 0 ∉ o) :
    Calls Tryd.prog 29 #[.pointer (some ⟨b, 0, none⟩), .pointer (some ⟨nb, 0, none⟩)] w fun e w' => e = .returned (.int .i64 0) ∧ ∃ S c, SkRep S (fun i => if i = T.nN then c else x.C i) (T.add key wd ref h9) ∧
      Has o w0 w' ((SkP b { x with S := S } T).sep (.node nb ⟨key, wd, ref, h9, fun _ => 0, false⟩ c)) := by
  have HX := Lib.hid h
  have HR := Lib.hid hr
  have HT := Lib.hid hT
  have HO := Lib.hid ho
  obtain ⟨o1, h1, _⟩ := h.right
  have c27 : w.cell? ⟨nb, 27, none⟩ = some (.int .i64 (h9 : Nat)) := (h1.blkAt (i := 27) (by omega)).1
  clear h hr hT ho h1
  go_enter Tryd.func29, Tryd.ntmps29
  go_wp2_with fail
  go_loopg [12] h9 (fun k iv wr => ∃ (j : Nat) (S : Ar) (c : Nat → Nat), j ≤ h9 ∧ k = h9 - j ∧ iv = .int .i64 j ∧ S.size = T.size ∧ S.steps = T.steps ∧ CRep S (fun l : SLoc => if l.1 = T.nN then c l.2 else x.C l.1 l.2) (fun l => if l.1 = T.nN ∧ l.2 < j then some 0 else T.at_ l) (T.used + j) ∧ Has o w0 wr ((SkP b { x with S := S } T).sep (.node nb ⟨key, wd, ref, h9, fun _ => 0, false⟩ c)))
  case atStart =>
    refine ⟨0, x.S, fun _ => 0, Nat.zero_le _, rfl, rfl, HR.out.size, HR.out.steps, ?_, HX.out⟩
    have e1 : (fun l : SLoc => if l.1 = T.nN ∧ l.2 < 0 then some (0 : Int) else T.at_ l) = T.at_ := funext fun l => if_neg (by omega)
    rw [e1]
    have hR := HR.out.rep
    have key1 : ∀ l v, T.at_ l = some v → l.1 ≠ T.nN := fun l v hv => by
      unfold ASk.at_ at hv; split at hv
      · omega
      · cases hv
    refine ⟨fun l v hv => ?_, fun a c ha hc e => ?_, fun l v hv => ?_, hR.count, hR.word⟩
    · dsimp only; rw [if_neg (key1 l v hv)]; exact hR.has l v hv
    · obtain ⟨u1, h1⟩ := Option.isSome_iff_exists.1 ha
      obtain ⟨u2, h2⟩ := Option.isSome_iff_exists.1 hc
      dsimp only at e
      rw [if_neg (key1 _ _ h1), if_neg (key1 _ _ h2)] at e
      exact hR.inj _ _ ha hc e
    · dsimp only; rw [if_neg (key1 l v hv)]; exact hR.lt l v hv
  case round =>
    clear HX c27
    obtain ⟨j, S, c, hj, hk, rfl, hs1, hs2, hrep, hX⟩ := hrel
    have HX := Lib.hid hX
    have HREP := Lib.hid hrep
    have HK := Lib.hid hk
    have HS1 := Lib.hid hs1
    have HS2 := Lib.hid hs2
    clear hX hrep hk hs1 hs2
    by_cases hlt : j < h9
    · have d1 : decide ((j : Int) < (h9 : Int)) = true := by simp; omega
      have d1' : decide (j < h9) = true := by simpa using hlt
      have q1 : 0 ≤ (j : Int) ∧ (j : Int) < 8 := by omega
      obtain ⟨o1, h1, p1, _, b1⟩ := HX.out.left
      obtain ⟨f0, _⟩ := SkP.fields h1
      have hTw : TabAt wr := HT.out.kept HX.out.keeps HO.out
      have HAL := Lib.hid (sk_alloc h1 hTw (tab_out HT.out HO.out p1) (by show cnt S.get S.size < S.size; rw [HREP.out.count, HS1.out]; omega))
      have HB1 := Lib.hid b1
      have HLT := Lib.hid hlt
      clear h1 p1 b1 hTw hlt
      go_wp2_with fail
      refine HAL.out.mono ?_
      rintro e w2 ⟨cc, rfl, hcc, hg, hX2⟩
      have hX2' := HB1.out _ _ hX2
      obtain ⟨o3, h3, _, _, b3⟩ := hX2'.right
      obtain ⟨e1, z1, hput⟩ := h3.blkAt (i := 19 + j) (by omega)
      have hX3 := b3 _ _ (blkc (hput (.int .i64 (cc : Nat))) (ndAt_put ⟨key, wd, ref, h9, fun _ => 0, false⟩ c j cc HLT.out h8))
      have HX3 := Lib.hid hX3
      have HCC := Lib.hid hcc
      have HG := Lib.hid hg
      clear hX2 hX2' h3 b3 hput hX3 hcc hg HAL HB1 f0
      go_wp2_with fail
      go_roundg (h9 - (j + 1))
      case measure => rw [HK.out]; have := HLT.out; omega
      case rel =>
        refine ⟨j + 1, S.put cc 0, fun m => if m = j then cc else c m, HLT.out, rfl, by go_num, HS1.out, HS2.out, ?_, HX3.out⟩
        have hat : (fun l : SLoc => if l.1 = T.nN ∧ l.2 < j then some (0 : Int) else T.at_ l) (T.nN, j) = none := by
          dsimp only
          rw [if_neg (by omega)]
          unfold ASk.at_
          exact if_neg (by intro h; have h1 : T.nN < T.nN := h.1; omega)
        have := HREP.out.take (l := (T.nN, j)) (c := cc) (v := 0) HCC.out HG.out hat ⟨by omega, by omega⟩
        rw [Nat.add_assoc] at this
        refine this.congr (fun l => ?_) (fun l => ?_)
        · by_cases e : l = (T.nN, j)
          · subst e
            rw [if_pos rfl, if_pos ⟨rfl, Nat.lt_succ_self _⟩]
          · rw [if_neg e]
            by_cases e2 : l.1 = T.nN ∧ l.2 < j
            · rw [if_pos e2, if_pos ⟨e2.1, by omega⟩]
            · rw [if_neg e2, if_neg]
              intro e3
              have : l.2 ≠ j := fun e4 => e (Prod.ext e3.1 e4)
              exact e2 ⟨e3.1, by omega⟩
        · by_cases e : l = (T.nN, j)
          · subst e
            rw [if_pos rfl, if_pos rfl]
            exact if_pos rfl
          · rw [if_neg e]
            by_cases e2 : l.1 = T.nN
            · rw [if_pos e2, if_pos e2]
              exact if_neg fun e4 => e (Prod.ext e2 e4)
            · rw [if_neg e2, if_neg e2]
    · obtain rfl : j = h9 := by omega
      go_wp2_with fail
      go_ret
      refine ⟨rfl, S, c, ⟨HS1.out, HR.out.big, HS2.out, ?_, fun l v hv => ?_⟩, HX.out⟩
      · rw [T.used_add]
        refine HREP.out.congr (fun l => T.at_add _ _ _ _ l) (fun l => ?_)
        split <;> rfl
      · rw [T.at_add] at hv
        show v < ((T.nN + 1 : Nat) : Int)
        split at hv
        · cases hv; omega
        · have := HR.out.small l v hv; omega

theorem ASk.at_fell (T : ASk) (i : Nat) (l : SLoc) : (T.fell i).at_ l = if l.1 = i then none else T.at_ l := by
  by_cases e : l.1 = i
  · rw [if_pos e]
    have e9 : ((T.fell i).E l.1).gone = true := by
      show (if l.1 = i then ({ T.E l.1 with gone := true } : ANd) else T.E l.1).gone = true
      rw [if_pos e]
    exact if_neg fun h => by rw [e9] at h; exact absurd h.2.1 (by simp)
  · rw [if_neg e]
    have e9 : (T.fell i).E l.1 = T.E l.1 := if_neg e
    unfold ASk.at_
    rw [e9]; rfl
theorem sumH_fell (E F : Nat → ANd) (i : Nat) (hg : (E i).gone = false) (hF : ∀ j, j ≠ i → F j = E j) (hFi : (F i).gone = true) : ∀ n, i < n → sumH F n + (E i).h = sumH E n
  | 0, h => absurd h (Nat.not_lt_zero _)
  | n + 1, h => by
    show sumH F n + (if (F n).gone = true then 0 else (F n).h) + (E i).h = sumH E n + (if (E n).gone = true then 0 else (E n).h)
    by_cases e : n = i
    · subst e
      rw [sumH_congr (E := E) n fun j hj => by rw [hF j (by omega)]; exact ⟨rfl, rfl⟩, if_pos hFi, if_neg (by rw [hg]; simp)]
      omega
    · have := sumH_fell E F i hg hF hFi n (by omega)
      rw [hF n e]
      omega
theorem ASk.used_fell (T : ASk) {i : Nat} (hi : i < T.nN) (hg : (T.E i).gone = false) : (T.fell i).used + (T.E i).h = T.used :=
  sumH_fell T.E (T.fell i).E i hg (fun j hj => if_neg hj) (by
    show (if i = i then ({ T.E i with gone := true } : ANd) else T.E i).gone = true
    rw [if_pos rfl]) T.nN hi

set_option maxHeartbeats 4000000 in
set_option maxRecDepth 100000 in
/-- A node's cells are given back. -/
theorem fell_walk (h : Has o w0 w (SkP b x T)) (hr : SkRep x.S x.C T) {i : Nat} (hi : i < T.nN) (hgone : (T.E i).gone = false) (h8 : (T.E i).h ≤ 8) :
    Calls Tryd.prog 36 #[.pointer (some ⟨b, 0, none⟩), .pointer (some ⟨x.nb i, 0, none⟩)] w fun e w' => e = .returned (.tuple #[]) ∧ ∃ S, SkRep S x.C (T.fell i) ∧ Has o w0 w' (SkP b { x with S := S } (T.fell i)) := by
  have HX := Lib.hid h
  have HR := Lib.hid hr
  have c27 : w.cell? ⟨x.nb i, 27, none⟩ = some (.int .i64 ((T.E i).h : Nat)) := SkP.node h hi 27 (by omega)
  have c27d : w.drew.cell? ⟨x.nb i, 27, none⟩ = some (.int .i64 ((T.E i).h : Nat)) := c27
  obtain ⟨n, hn⟩ : ∃ n, (T.E i).h = n := ⟨_, rfl⟩
  rw [hn] at c27 c27d h8
  have q0 : 0 ≤ (n : Int) ∧ (n : Int) ≤ 8 := by omega
  have HN := Lib.hid hn
  have HI := Lib.hid hi
  have HGO := Lib.hid hgone
  clear h hr hn hi hgone
  go_enter Tryd.func36, Tryd.ntmps36
  go_wp2_with fail
  go_region
  go_wp2_with fail
  go_loopg [15] n (fun k iv wr => ∃ (j : Nat) (S : Ar), j ≤ n ∧ k = n - j ∧ iv = .int .i64 j ∧ S.size = T.size ∧ S.steps = T.steps ∧ CRep S (fun l : SLoc => x.C l.1 l.2) (fun l => if l.1 = i ∧ l.2 < j then none else T.at_ l) (T.used - j) ∧ Has o w0 wr (SkP b { x with S := S } T))
  case atStart => exact ⟨0, x.S, Nat.zero_le _, rfl, rfl, HR.out.size, HR.out.steps, HR.out.rep.congr (fun l => if_neg (by omega)) (fun _ => rfl), HX.out.quiet ((Kept.refl [] _).drew)⟩
  case round =>
    clear HX c27 c27d
    obtain ⟨j, S, hj, hk, rfl, hs1, hs2, hrep, hX⟩ := hrel
    have HX := Lib.hid hX
    have HREP := Lib.hid hrep
    have HK := Lib.hid hk
    have HS1 := Lib.hid hs1
    have HS2 := Lib.hid hs2
    clear hX hrep hk hs1 hs2
    by_cases hlt : j < n
    · have d1 : decide ((j : Int) < (n : Int)) = true := by simp; omega
      have d1' : decide (j < n) = true := by simpa using hlt
      have q1 : 0 ≤ (j : Int) ∧ (j : Int) < (n : Int) := by omega
      have hat : T.at_ (i, j) = some ((T.E i).nx j) := by
        unfold ASk.at_
        exact if_pos ⟨HI.out, HGO.out, by show j < (T.E i).h; rw [HN.out]; exact hlt⟩
      have hat' : (fun l : SLoc => if l.1 = i ∧ l.2 < j then none else T.at_ l) (i, j) = some ((T.E i).nx j) := by
        dsimp only
        rw [if_neg (by omega)]; exact hat
      obtain ⟨f0, _⟩ := SkP.fields HX.out
      obtain ⟨_, ct⟩ := SkP.tower (j := j) HX.out hat (by omega)
      have ct : wr.cell? ⟨x.nb i, 19 + j, none⟩ = some (.int .i64 (x.C i j : Nat)) := ct
      have HFR := Lib.hid (sk_free HX.out (x.C i j) _ (HREP.out.has (i, j) _ hat'))
      have HAT := Lib.hid hat
      have HLT := Lib.hid hlt
      clear hlt hat hat'
      go_wp2_with fail
      refine HFR.out.mono ?_
      rintro e w2 ⟨rfl, hX2⟩
      have HX2 := Lib.hid hX2
      clear hX2 f0 ct HFR
      go_wp2_with fail
      go_roundg (n - (j + 1))
      case measure => rw [HK.out]; have := HLT.out; omega
      case rel =>
        refine ⟨j + 1, S.drop (x.C i j), HLT.out, rfl, by go_num, HS1.out, HS2.out, ?_, HX2.out⟩
        have := HREP.out.drop (l := (i, j)) (u := (T.E i).nx j) (by dsimp only; rw [if_neg (by omega)]; exact HAT.out)
        have e9 : T.used - j - 1 = T.used - (j + 1) := by omega
        rw [e9] at this
        refine this.congr (fun l => ?_) (fun l => rfl)
        by_cases e : l = (i, j)
        · subst e
          rw [if_pos rfl, if_pos ⟨rfl, Nat.lt_succ_self _⟩]
        · rw [if_neg e]
          by_cases e2 : l.1 = i ∧ l.2 < j
          · rw [if_pos e2, if_pos ⟨e2.1, by omega⟩]
          · rw [if_neg e2, if_neg]
            intro e3
            have : l.2 ≠ j := fun e4 => e (Prod.ext e3.1 e4)
            exact e2 ⟨e3.1, by omega⟩
    · obtain rfl : j = n := by omega
      go_wp2_with fail
      go_end0
      refine ⟨rfl, S, ⟨HS1.out, HR.out.big, HS2.out, ?_, fun l v hv => ?_⟩, ?_⟩
      · have e1 : (T.fell i).used = T.used - j := by have := T.used_fell HI.out HGO.out; rw [HN.out] at this; omega
        rw [e1]
        refine HREP.out.congr (fun l => ?_) (fun _ => rfl)
        rw [T.at_fell]
        by_cases e : l.1 = i
        · rw [if_pos e]
          by_cases e2 : l.2 < j
          · rw [if_pos ⟨e, e2⟩]
          · rw [if_neg (fun h => e2 h.2)]
            unfold ASk.at_
            exact (if_neg (by rw [e, HN.out]; omega)).symm
        · rw [if_neg e, if_neg (fun h => e h.1)]
      · rw [T.at_fell] at hv
        split at hv
        · cases hv
        · exact HR.out.small l v hv
      · have h9 := HX.out
        unfold SkP at h9 ⊢
        rw [skRows_fell]; exact h9
end Go.Proofs.YtpckpgdkfimapaaDoor
