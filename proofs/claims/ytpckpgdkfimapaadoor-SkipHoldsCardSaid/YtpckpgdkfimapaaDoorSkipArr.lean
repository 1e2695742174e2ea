/- Where a search arrives. -/
import Derived.Test.YtpckpgdkfimapaaDoorSkipMore
namespace Go.Proofs.YtpckpgdkfimapaaDoor
open Go Go.RowKit Go.BigFrame
set_option linter.unusedVariables false

variable {o : List Nat} {w0 w : World} {b : Nat} {x : SkIx} {T : ASk} {ob : Nat} {q : ASop}

/-- A word's bytes. -/
def wl (s : ByteArray) : List UInt8 := (List.range 16).map (fun i => s.data.getD i 0) ++ [UInt8.ofNat (s.size % 256)]
theorem wl_len (s : ByteArray) : (wl s).length = 17 := by unfold wl; simp
theorem wordAt_byte (s : ByteArray) (i : Nat) : wordAt s i = ((s.data.getD i 0).toNat : Int) := by
  unfold wordAt
  by_cases h : i < s.size
  · rw [if_pos h]
  · rw [if_neg h, Array.getD_eq_getD_getElem?, Array.getElem?_eq_none (by show s.size ≤ i; omega)]; rfl
theorem wordV_cells (s : ByteArray) : wordV s = .agg ((wl s).map Extern.Stop.cell).toArray := by
  unfold wordV
  simp only [wordAt_byte]
  have e : ((s.size : Int) % 256) = ((UInt8.ofNat (s.size % 256)).toNat : Int) := by
    rw [UInt8.toNat_ofNat']; omega
  rw [e]
  rfl
theorem wl_inj {a c : ByteArray} (ha : a.size ≤ 16) (hc : c.size ≤ 16) : (wl a == wl c) = decide (a = c) := by
  by_cases h : a = c
  · subst h; simp
  · rw [decide_eq_false h, beq_eq_false_iff_ne]
    intro e
    apply h
    unfold wl at e
    have e1 := List.append_inj e (by simp)
    have hs : a.size = c.size := by
      have := congrArg (fun l : List UInt8 => (l.getD 0 0).toNat) e1.2
      simp only [List.getD_cons_zero, UInt8.toNat_ofNat'] at this
      omega
    have hb : ∀ i, i < 16 → a.data.getD i 0 = c.data.getD i 0 := fun i hi => by
      have := congrArg (fun l : List UInt8 => l.getD i 0) e1.1
      simpa [List.getD_eq_getElem?_getD, hi] using this
    obtain ⟨a⟩ := a
    obtain ⟨c⟩ := c
    have hs' : a.size = c.size := hs
    have ha' : a.size ≤ 16 := ha
    congr 1
    refine Array.ext hs' fun i h1 h2 => ?_
    have := hb i (by omega)
    simpa [Array.getD_eq_getD_getElem?, h1, h2] using this
theorem words_eq (a c : ByteArray) (ha : a.size ≤ 16) (hc : c.size ≤ 16) (w : World) : (Op.equalIn 10000 60 (wordV a) (wordV c)).run Tryd.prog w = .ok (decide (a = c)) w := by
  rw [wordV_cells, wordV_cells, ← wl_inj ha hc]
  exact run_equalIn_bytes w 9998 60 5 17 Tryd.underlying60 Tryd.underlying5 (fun w => Tryd.sizeOf5 w) _ _ (wl_len a) (wl_len c)

/-- A word's cells. -/
def wc (s : ByteArray) : List Value := (wl s).map Extern.Stop.cell
theorem wc_get (s : ByteArray) (j : Nat) (hj : j < 17) : (wc s)[j]? = some (if j < 16 then .int .u8 (wordAt s j) else .int .u8 ((s.size : Int) % 256)) := by
  rcases (by omega : j < 16 ∨ j = 16) with h | rfl
  · rw [if_pos h]
    unfold wc wl
    rw [List.getElem?_map, List.getElem?_append_left (by simpa using h), List.getElem?_map, List.getElem?_range h, wordAt_byte]
    rfl
  · rw [if_neg (by omega)]
    have e : ((s.size : Int) % 256) = ((UInt8.ofNat (s.size % 256)).toNat : Int) := by
      rw [UInt8.toNat_ofNat']; omega
    rw [e]; rfl
theorem nd_word (h : Has o w0 w (SkOp b x T ob q)) {i : Nat} (hi : i < T.nN) : w.rangeAt (x.nb i) 1 (wc (T.E i).wd) := by
  intro j v hv
  have hj : j < 17 := by
    have := (List.getElem?_eq_some_iff.1 hv).1
    unfold wc at this
    rw [List.length_map, wl_len] at this; exact this
  rw [wc_get _ _ hj] at hv
  rw [so_node h hi (1 + j) (by omega), ← hv]
  unfold ndAt
  rw [if_neg (by omega)]
  by_cases h2 : j < 16
  · rw [if_pos (by omega), if_pos h2, show 1 + j - 1 = j by omega]
  · rw [if_neg (by omega), if_neg h2, if_pos (by omega)]
theorem op_word (h : Has o w0 w (SkOp b x T ob q)) : w.rangeAt ob 3 (wc q.wd) := by
  intro j v hv
  have hj : j < 17 := by
    have := (List.getElem?_eq_some_iff.1 hv).1
    unfold wc at this
    rw [List.length_map, wl_len] at this; exact this
  rw [wc_get _ _ hj] at hv
  rw [(so_cell h (3 + j) (by omega)).1, ← hv, sopF_lo _ _ (by omega)]
  unfold sopLo
  rw [if_neg (by omega), if_neg (by omega), if_neg (by omega)]
  by_cases h2 : j < 16
  · rw [if_pos (by omega), if_pos h2, show 3 + j - 3 = j by omega]
  · rw [if_neg (by omega), if_neg h2, if_pos (by omega)]
theorem word_at (W : World) (g k : Nat) (s : ByteArray) (h : W.rangeAt g k (wc s)) : (Instr.loadAt 60 (.pointer (some ⟨g, k, none⟩))).run Tryd.prog W = .ok (.agg (wc s).toArray) W :=
  run_loadAt_mid W g k _ (wc s) _ h Tryd.underlying60 rfl (by unfold wc; rw [List.length_map, wl_len]; kernel_rfl)
theorem words_eq2 (a c : ByteArray) (ha : a.size ≤ 16) (hc : c.size ≤ 16) (w : World) : (Op.equalIn 10000 60 (.agg (wc a).toArray) (.agg (wc c).toArray)).run Tryd.prog w = .ok (decide (a = c)) w := by
  rw [← wl_inj ha hc]
  exact run_equalIn_bytes w 9998 60 5 17 Tryd.underlying60 Tryd.underlying5 (fun w => Tryd.sizeOf5 w) _ _ (wl_len a) (wl_len c)

theorem ndAt_new (n : ANd) {k : Nat} (h1 : 19 ≤ k) (h2 : k < 27) : ndAt n (fun _ => 0) k = .int .i64 0 := by
  unfold ndAt
  rw [if_neg (by omega), if_neg (by omega), if_neg (by omega), if_neg (by omega), if_pos (by omega)]
  simp
theorem ndAt_word (n : ANd) (c : Nat → Nat) {j : Nat} (h : j < 17) : ndAt n c (j + 1) = if j < 16 then .int .u8 (wordAt n.wd j) else .int .u8 ((n.wd.size : Int) % 256) := by
  unfold ndAt
  rw [if_neg (by omega)]
  by_cases e : j < 16
  · rw [if_pos (by omega), if_pos e]; rfl
  · rw [if_neg (by omega), if_pos (by omega), if_neg e]

/-- Is a node the key's? -/
def isB (T : ASk) (q : ASop) (v : Int) : Bool := decide (0 < v) && (decide (q.kind ≠ 2) && decide ((T.E v.toNat).wd = q.wd))
/-- What arriving comes to. -/
def arrS (T : ASk) (q : ASop) (v : Int) : ASk × ASop × Bool :=
  if (q.kind = 2 ∧ 0 < v) ∨ (q.kind = 1 ∧ isB T q v = true) then (T, q.ends (T.E v.toNat).key (T.E v.toNat).ref true 0, true)
  else if q.kind ≠ 0 then (T, q.ends ⟨#[]⟩ 0 false 0, true)
  else if isB T q v = true ∧ v ≠ q.own then (if 0 < q.own then T.fell q.own.toNat else T, q.ends q.key (T.E v.toNat).ref true 0, true)
  else if q.own = 0 then (T.add q.key q.wd q.ref q.height.toNat, { q with own := T.nN, does := 1 }, false)
  else (T, { q with does := 1 }, false)

/-- What the walks of the two callees that take and give cells come to: at the world in which they are called. -/
def GrowAt (o : List Nat) (w0 : World) (b : Nat) (x : SkIx) (T : ASk) (ob : Nat) (q : ASop) : Prop :=
  q.kind = 0 → q.own = 0 → ∀ W nb, Has o w0 W ((SkOp b x T ob q).sep (.node nb ⟨q.key, q.wd, q.ref, q.height.toNat, fun _ => 0, false⟩ fun _ => 0)) →
    Calls Tryd.prog 29 #[.pointer (some ⟨b, 0, none⟩), .pointer (some ⟨nb, 0, none⟩)] W fun e w' => e = .returned (.int .i64 0) ∧ ∃ S c, SkRep S (fun i => if i = T.nN then c else x.C i) (T.add q.key q.wd q.ref q.height.toNat) ∧
      Has o w0 w' ((SkOp b { x with S := S } T ob q).sep (.node nb ⟨q.key, q.wd, q.ref, q.height.toNat, fun _ => 0, false⟩ c))
def FellAt (o : List Nat) (w0 : World) (b : Nat) (x : SkIx) (T : ASk) (ob : Nat) (q : ASop) : Prop :=
  q.kind = 0 → 0 < q.own → ∀ W, Has o w0 W (SkOp b x T ob q) →
    Calls Tryd.prog 36 #[.pointer (some ⟨b, 0, none⟩), .pointer (some ⟨x.nb q.own.toNat, 0, none⟩)] W fun e w' => e = .returned (.tuple #[]) ∧ ∃ S, SkRep S x.C (T.fell q.own.toNat) ∧ Has o w0 w' (SkOp b { x with S := S } (T.fell q.own.toNat) ob q)

set_option maxHeartbeats 16000000 in
set_option maxRecDepth 100000 in
theorem arr_walk (h : Has o w0 w (SkOp b x T ob q)) (hr : SkRep x.S x.C T) (v : Int) (hv : v = 0 ∨ ∃ m : Nat, v = (m : Int) + 1 ∧ m + 1 < T.nN ∧ (T.E (m + 1)).wd.size ≤ 16) (hk : q.kind = 0 ∨ q.kind = 1 ∨ q.kind = 2) (hs2 : q.wd.size ≤ 16) (hown : q.own = 0 ∨ ∃ i : Nat, q.own = (i : Int) + 1 ∧ i + 1 < T.nN)
    (hh : 0 ≤ q.height) (hN : T.nN ≤ 65536) (hG : GrowAt o w0 b x T ob q) (hF : FellAt o w0 b x T ob q) :
    Calls Tryd.prog 44 #[.pointer (some ⟨ob, 0, none⟩), .int .i64 v] w fun e w' => e = .returned (.bool (arrS T q v).2.2) ∧ ∃ x', SkRep x'.S x'.C (arrS T q v).1 ∧ Has o w0 w' (SkOp b x' (arrS T q v).1 ob (arrS T q v).2.1) := by
  have HX := Lib.hid h
  have HK := Lib.hid hk
  have HG := Lib.hid hG
  have HF := Lib.hid hF
  have HR := Lib.hid hr
  have HS2 := Lib.hid hs2
  have HV := Lib.hid hv
  have HO := Lib.hid hown
  have c1 : w.cell? ⟨ob, 1, none⟩ = some (.int .i64 q.kind) := (so_cell h 1 (by omega)).1
  have HH := Lib.hid hh
  have HNN := Lib.hid hN
  clear h hs2 hk hG hF hr hv hown hh hN
  go_enter Tryd.func44, Tryd.ntmps44
  go_upto_region 1 with fail
  go_cut [5] from 8 (fun s5 wx => s5 = .bool (isB T q v) ∧ ∃ nq, wx = w.drewN nq)
  case first =>
    clear HG HF HO
    rcases HV.out with rfl | ⟨m, rfl, hm, hs1⟩
    · go_quiet (fail)
      go_wp2_with fail
      go_meet
      exact ⟨rfl, _, rfl⟩
    · have HN := Lib.hid (fun (W : World) (hW : Has o w0 W (SkOp b x T ob q)) => show Calls Tryd.prog 43 #[.pointer (some ⟨ob, 0, none⟩), .int .i64 ((m : Int) + 1)] W fun e w' => e = .returned (.pointer (some ⟨x.nb (m + 1), 0, none⟩)) ∧ w' = W from node_at (i := m + 1) hW hm)
      have g1 : decide (0 < (m : Int) + 1) = true := decide_eq_true (by omega)
      obtain ⟨eqb, heqb⟩ : ∃ eqb : Bool, decide ((T.E (m + 1)).wd = q.wd) = eqb := ⟨_, rfl⟩
      have his : isB T q ((m : Int) + 1) = (decide (q.kind ≠ 2) && eqb) := by
        unfold isB
        rw [g1, Bool.true_and, show ((m : Int) + 1).toNat = m + 1 by omega, heqb]
      have hweq := words_eq2 (T.E (m + 1)).wd q.wd hs1 HS2.out
      rw [heqb] at hweq
      have hr1 := nd_word HX.out hm
      have hr2 := op_word HX.out
      have hu := Tryd.underlying60
      have hi1 : (Tryd.prog.info? 60).map (·.size) = some (wc (T.E (m + 1)).wd).length := by unfold wc; rw [List.length_map, wl_len]; kernel_rfl
      have hi2 : (Tryd.prog.info? 60).map (·.size) = some (wc q.wd).length := by unfold wc; rw [List.length_map, wl_len]; kernel_rfl
      clear heqb hs1 HV
      generalize wc (T.E (m + 1)).wd = W1 at *
      generalize wc q.wd = W2 at *
      obtain ⟨kd, hkd⟩ : ∃ kd, q.kind = kd := ⟨_, rfl⟩
      rw [hkd] at c1 his
      have HIS2 := Lib.hid his
      clear HK hkd his hm
      by_cases hk2 : kd = 2
      · subst hk2
        clear hweq hr1 hr2 hu hi1 hi2
        go_quiet (fail)
        go_wp2_with fail
        go_meet
        exact ⟨by rw [HIS2.out]; rfl, _, rfl⟩
      · have g2 : (kd != 2) = true := by simpa using hk2
        have g3 : (kd == 2) = false := by simpa using hk2
        have g4 : decide (kd = 2) = false := decide_eq_false hk2
        have HK2 := Lib.hid hk2
        clear hk2
        refine wp_region_quiet_lit (by kernel_rfl) (by kernel_rfl) ?_
        repeat (go_big_quiet_step ((go_at_call 43; refine (HN.out _ (HX.out.drewN _)).mono ?_; rintro e w5 ⟨rfl, rfl⟩; exact ⟨rfl, _, rfl⟩)))
        (go_big_quiet_want
         refine quiet_load_mid _ _ rfl _ _ rfl _ _ (range_drew hr1) hu rfl hi1 ?_
         simp only [Act.put, List.setIfInBounds_toArray, List.set_cons_zero, List.set_cons_succ]
         go_big_quiet_on)
        repeat (go_big_quiet_step (fail))
        (go_big_quiet_want
         refine quiet_load_mid _ _ rfl _ _ rfl _ _ (range_drew hr2) hu rfl hi2 ?_
         simp only [Act.put, List.setIfInBounds_toArray, List.set_cons_zero, List.set_cons_succ]
         go_big_quiet_on)
        repeat (go_big_quiet_step (fail))
        refine wpQuiet_nil ?_
        intro _ hw'
        obtain ⟨nq, hw''⟩ := hw'
        subst hw''
        go_wp2_with fail
        go_meet
        exact ⟨by rw [HIS2.out, show decide (kd ≠ 2) = true from decide_eq_true HK2.out]; rfl, _, rfl⟩
  case rest =>
    obtain ⟨rfl, nq, rfl⟩ := hcut
    have HX1 := Lib.hid (HX.out.drewN nq)
    generalize w.drewN nq = w1 at *
    clear HX c1
    have c1 : w1.cell? ⟨ob, 1, none⟩ = some (.int .i64 q.kind) := (so_cell HX1.out 1 (by omega)).1
    have c12 : w1.cell? ⟨ob, 42, none⟩ = some (.int .i64 q.own) := (so_cell HX1.out 42 (by omega)).1
    by_cases hA : (q.kind = 2 ∧ 0 < v) ∨ (q.kind = 1 ∧ isB T q v = true)
    · have har : arrS T q v = (T, q.ends (T.E v.toNat).key (T.E v.toNat).ref true 0, true) := by unfold arrS; rw [if_pos hA]
      have hv0 : 0 < v := by
        rcases hA with h | ⟨_, h⟩
        · exact h.2
        · unfold isB at h; simp at h; exact h.1
      obtain ⟨m, rfl, hm⟩ : ∃ m : Nat, v = (m : Int) + 1 ∧ m + 1 < T.nN := by
        rcases HV.out with h | ⟨m, h, hm, _⟩
        · omega
        · exact ⟨m, h, hm⟩
      have ht : ((m : Int) + 1).toNat = m + 1 := by omega
      rw [ht] at har
      have HAR := Lib.hid har
      have g1 : decide (0 < (m : Int) + 1) = true := decide_eq_true (by omega)
      have HN := Lib.hid (fun (W : World) (hW : Has o w0 W (SkOp b x T ob q)) => show Calls Tryd.prog 43 #[.pointer (some ⟨ob, 0, none⟩), .int .i64 ((m : Int) + 1)] W fun e w' => e = .returned (.pointer (some ⟨x.nb (m + 1), 0, none⟩)) ∧ w' = W from node_at (i := m + 1) hW hm)
      have d0 := so_node HX1.out hm 0 (by omega)
      have d18 := so_node HX1.out hm 18 (by omega)
      have d0 : w1.cell? ⟨x.nb (m + 1), 0, none⟩ = some (.string (T.E (m + 1)).key) := d0
      have d18 : w1.cell? ⟨x.nb (m + 1), 18, none⟩ = some (.int .i64 (T.E (m + 1)).ref) := d18
      clear har HG HF HO HV ht hm hv0
      generalize isB T q ((m : Int) + 1) = is at *
      obtain ⟨kd, hkd⟩ : ∃ kd, q.kind = kd := ⟨_, rfl⟩
      rw [hkd] at c1 hA
      clear HK hkd c12
      rcases hA with ⟨rfl, _⟩ | ⟨rfl, rfl⟩
      all_goals (
        go_wp2_with fail
        go_region_law
          (first | (go_simp
                    go_at_call 43
                    refine (HN.out _ (HX1.out.quiet ((Kept.refl _ _).drew))).mono ?_
                    rintro e w7 ⟨rfl, rfl⟩)
                 | (go_simp
                    go_at_call 30
                    refine (so_ends (HX1.out.quiet ((Kept.refl _ _).drew)) _ _ _ _).mono ?_
                    rintro e w7 ⟨rfl, hX7⟩
                    have HX7 := Lib.hid hX7
                    clear hX7))
        all_goals (
          go_wp2_with fail
          go_ret
          rw [HAR.out]
          exact ⟨rfl, x, HR.out, HX7.out⟩))
    · by_cases hB : q.kind = 0
      case neg =>
        have har : arrS T q v = (T, q.ends ⟨#[]⟩ 0 false 0, true) := by unfold arrS; rw [if_neg hA, if_pos hB]
        have HAR := Lib.hid har
        have hk := HK.out
        have hq : q.kind = 2 ∧ decide (0 < v) = false ∨ q.kind = 1 ∧ isB T q v = false := by
          rcases hk with h | h | h
          · exact absurd h hB
          · right; refine ⟨h, ?_⟩
            cases e : isB T q v
            · rfl
            · exact absurd (.inr ⟨h, e⟩) hA
          · left; exact ⟨h, decide_eq_false fun h0 => hA (.inl ⟨h, h0⟩)⟩
        clear har HG HF HO HV hA hB HK hk c12
        generalize isB T q v = is at *
        obtain ⟨kd, hkd⟩ : ∃ kd, q.kind = kd := ⟨_, rfl⟩
        rw [hkd] at c1 hq
        clear hkd
        rcases hq with ⟨rfl, g1⟩ | ⟨rfl, rfl⟩
        all_goals (
          go_wp2_with fail
          refine (so_ends HX1.out _ _ _ _).mono ?_
          rintro e w7 ⟨rfl, hX7⟩
          have HX7 := Lib.hid hX7
          clear hX7
          go_wp2_with fail
          go_ret
          rw [HAR.out]
          exact ⟨rfl, x, HR.out, HX7.out⟩)
      case pos =>
        by_cases hC : isB T q v = true ∧ v ≠ q.own
        · have har : arrS T q v = (if 0 < q.own then T.fell q.own.toNat else T, q.ends q.key (T.E v.toNat).ref true 0, true) := by unfold arrS; rw [if_neg hA, if_neg (by omega), if_pos hC]
          have hv0 : 0 < v := by
            have h := hC.1
            unfold isB at h; simp at h; exact h.1
          obtain ⟨m, rfl, hm⟩ : ∃ m : Nat, v = (m : Int) + 1 ∧ m + 1 < T.nN := by
            rcases HV.out with h | ⟨m, h, hm, _⟩
            · omega
            · exact ⟨m, h, hm⟩
          have ht : ((m : Int) + 1).toNat = m + 1 := by omega
          rw [ht] at har
          have HAR := Lib.hid har
          have g1 : decide (0 < (m : Int) + 1) = true := decide_eq_true (by omega)
          have g2 : (((m : Int) + 1) != q.own) = true := by simpa using hC.2
          have g3 : isB T q ((m : Int) + 1) = true := hC.1
          have c2 : w1.cell? ⟨ob, 2, none⟩ = some (.string q.key) := (so_cell HX1.out 2 (by omega)).1
          have HM := Lib.hid hm
          have HB := Lib.hid hB
          clear har HV ht hm hv0 hA hC HG
          rw [hB] at c1
          clear hB HK
          rw [g3] at *
          clear g3
          rcases HO.out with h0 | ⟨i, hi, hiN⟩
          · have HAR2 := Lib.hid (show arrS T q ((m : Int) + 1) = (T, q.ends q.key (T.E (m + 1)).ref true 0, true) by rw [HAR.out, if_neg (by omega)])
            have HN := Lib.hid (fun (W : World) (hW : Has o w0 W (SkOp b x T ob q)) => show Calls Tryd.prog 43 #[.pointer (some ⟨ob, 0, none⟩), .int .i64 ((m : Int) + 1)] W fun e w' => e = .returned (.pointer (some ⟨x.nb (m + 1), 0, none⟩)) ∧ w' = W from node_at (i := m + 1) hW HM.out)
            have d18 : w1.cell? ⟨x.nb (m + 1), 18, none⟩ = some (.int .i64 (T.E (m + 1)).ref) := so_node HX1.out HM.out 18 (by omega)
            rw [h0] at c12 g2
            clear HAR HF h0 HO
            go_wp2_with fail
            go_region_law
              (first | (go_simp
                        go_at_call 43
                        refine (HN.out _ (HX1.out.quiet ((Kept.refl _ _).drew))).mono ?_
                        rintro e w7 ⟨rfl, rfl⟩)
                     | (go_simp
                        go_at_call 30
                        refine (so_ends (HX1.out.quiet ((Kept.refl _ _).drew)) _ _ _ _).mono ?_
                        rintro e w7 ⟨rfl, hX7⟩
                        have HX7 := Lib.hid hX7
                        clear hX7))
            all_goals (
              go_wp2_with fail
              go_ret
              rw [HAR2.out]
              exact ⟨rfl, x, HR.out, HX7.out⟩)
          · have hit : q.own.toNat = i + 1 := by omega
            have HAR2 := Lib.hid (show arrS T q ((m : Int) + 1) = (T.fell (i + 1), q.ends q.key (T.E (m + 1)).ref true 0, true) by rw [HAR.out, if_pos (by omega), hit])
            have HNO := Lib.hid (fun (W : World) (hW : Has o w0 W (SkOp b x T ob q)) => show Calls Tryd.prog 43 #[.pointer (some ⟨ob, 0, none⟩), .int .i64 ((i : Int) + 1)] W fun e w' => e = .returned (.pointer (some ⟨x.nb (i + 1), 0, none⟩)) ∧ w' = W from node_at (i := i + 1) hW hiN)
            have HFE := Lib.hid (HF.out HB.out (by omega))
            rw [hit] at HFE
            rw [hi] at c12 g2
            have g4 : decide (0 < (i : Int) + 1) = true := decide_eq_true (by omega)
            have c0 : w1.cell? ⟨ob, 0, none⟩ = some (.pointer (some ⟨b, 0, none⟩)) := (so_cell HX1.out 0 (by omega)).1
            clear HAR HF HO hi hiN hit
            go_wp2_with fail
            go_region_law
              (first | (go_simp
                        go_at_call 43
                        refine (HNO.out _ (HX1.out.quiet ((Kept.refl _ _).drew))).mono ?_
                        rintro e w7 ⟨rfl, rfl⟩)
                     | (go_simp
                        go_at_call 36
                        refine (HFE.out _ (HX1.out.quiet ((Kept.refl _ _).drew))).mono ?_
                        rintro e w7 ⟨rfl, S2, hr2, hX2⟩
                        have HX2 := Lib.hid hX2
                        have HR2 := Lib.hid hr2
                        clear hX2 hr2))
            all_goals (
              have HN := Lib.hid (fun (W : World) (hW : Has o w0 W (SkOp b { x with S := S2 } (T.fell (i + 1)) ob q)) => show Calls Tryd.prog 43 #[.pointer (some ⟨ob, 0, none⟩), .int .i64 ((m : Int) + 1)] W fun e w' => e = .returned (.pointer (some ⟨x.nb (m + 1), 0, none⟩)) ∧ w' = W from node_at (i := m + 1) hW HM.out)
              have e2 : w7.cell? ⟨ob, 2, none⟩ = some (.string q.key) := (so_cell HX2.out 2 (by omega)).1
              have d18 : w7.cell? ⟨x.nb (m + 1), 18, none⟩ = some (.int .i64 (T.E (m + 1)).ref) := by
                have := so_node HX2.out (i := m + 1) HM.out 18 (by omega)
                rw [this]
                show some (Value.int .i64 ((T.fell (i + 1)).E (m + 1)).ref) = _
                unfold ASk.fell
                dsimp only
                split <;> rfl
              clear c1 c12 c2 c0 HFE HNO HX1 HR
              go_wp2_with fail
              go_region_law
                (first | (go_simp
                          go_at_call 43
                          refine (HN.out _ (HX2.out.quiet ((Kept.refl _ _).drew))).mono ?_
                          rintro e w8 ⟨rfl, rfl⟩)
                       | (go_simp
                          go_at_call 30
                          refine (so_ends (HX2.out.quiet ((Kept.refl _ _).drew)) _ _ _ _).mono ?_
                          rintro e w8 ⟨rfl, hX7⟩
                          have HX7 := Lib.hid hX7
                          clear hX7))
              all_goals (
                go_wp2_with fail
                go_ret
                rw [HAR2.out]
                exact ⟨rfl, _, HR2.out, HX7.out⟩))
        · have har : arrS T q v = if q.own = 0 then (T.add q.key q.wd q.ref q.height.toNat, { q with own := T.nN, does := 1 }, false) else (T, { q with does := 1 }, false) := by unfold arrS; rw [if_neg hA, if_neg (by omega), if_neg hC]
          have HB := Lib.hid hB
          rw [hB] at c1
          by_cases h0 : q.own = 0
          case neg =>
            have HAR := Lib.hid (har.trans (if_neg h0))
            have hx7 : isB T q v = false ∨ isB T q v = true ∧ (v != q.own) = false := by
              cases e : isB T q v
              · exact .inl rfl
              · right
                refine ⟨rfl, ?_⟩
                have : v = q.own := Classical.byContradiction fun hne => hC ⟨e, hne⟩
                rw [this]; simp
            have g5 : (q.own == 0) = false := by simpa using h0
            obtain ⟨c22, z22⟩ := so_cell HX1.out 22 (by omega)
            clear HG HF HO HV har hA hB hC h0 HK
            generalize isB T q v = is at *
            rcases hx7 with rfl | ⟨rfl, g7⟩
            all_goals (
              go_wp2_with fail
              go_ret
              rw [HAR.out]
              exact ⟨rfl, x, HR.out, so_does HX1.out 1⟩)
          case pos =>
            have HAR := Lib.hid (har.trans (if_pos h0))
            have hx7 : isB T q v = false := by
              cases e : isB T q v
              · rfl
              · have : v = q.own := Classical.byContradiction fun hne => hC ⟨e, hne⟩
                unfold isB at e
                simp at e
                omega
            have HGR := Lib.hid (HG.out HB.out h0)
            have H0 := Lib.hid h0
            have c0 : w1.cell? ⟨ob, 0, none⟩ = some (.pointer (some ⟨b, 0, none⟩)) := (so_cell HX1.out 0 (by omega)).1
            have c2 : w1.cell? ⟨ob, 2, none⟩ = some (.string q.key) := (so_cell HX1.out 2 (by omega)).1
            have c20 : w1.cell? ⟨ob, 20, none⟩ = some (.int .i64 q.ref) := (so_cell HX1.out 20 (by omega)).1
            have c21 : w1.cell? ⟨ob, 21, none⟩ = some (.int .i64 q.height) := (so_cell HX1.out 21 (by omega)).1
            have hr2 := op_word HX1.out
            have hu := Tryd.underlying60
            have hi2 : (Tryd.prog.info? 60).map (·.size) = some (wc q.wd).length := by unfold wc; rw [List.length_map, wl_len]; kernel_rfl
            have hY := wc_get q.wd
            obtain ⟨y0, y1, y2, y3, y4, y5, y6, y7, y8, y9, y10, y11, y12, y13, y14, y15, y16, hy⟩ : ∃ y0 y1 y2 y3 y4 y5 y6 y7 y8 y9 y10 y11 y12 y13 y14 y15 y16, wc q.wd = [y0, y1, y2, y3, y4, y5, y6, y7, y8, y9, y10, y11, y12, y13, y14, y15, y16] := ⟨_, _, _, _, _, _, _, _, _, _, _, _, _, _, _, _, _, rfl⟩
            rw [hy] at hr2 hi2 hY
            have HY := Lib.hid hY
            have HRW := Lib.hid hr2
            have HCN := Lib.hid (fun (C : Array Value) (hs : C = #[.string q.key, y0, y1, y2, y3, y4, y5, y6, y7, y8, y9, y10, y11, y12, y13, y14, y15, y16, .int .i64 q.ref, .int .i64 0, .int .i64 0, .int .i64 0, .int .i64 0, .int .i64 0, .int .i64 0, .int .i64 0, .int .i64 0, .int .i64 q.height]) => show ∀ i, i < 28 → C[i]? = some (ndAt ⟨q.key, q.wd, q.ref, q.height.toNat, fun _ => 0, false⟩ (fun _ => 0) i) by
              subst hs
              intro i hi
              by_cases h19 : 19 ≤ i ∧ i < 27
              · rw [ndAt_new _ h19.1 h19.2]
                rcases (by omega : i = 19 ∨ i = 20 ∨ i = 21 ∨ i = 22 ∨ i = 23 ∨ i = 24 ∨ i = 25 ∨ i = 26) with rfl | rfl | rfl | rfl | rfl | rfl | rfl | rfl <;> rfl
              by_cases h17 : 1 ≤ i ∧ i < 18
              · obtain ⟨j, rfl⟩ : ∃ j, i = j + 1 := ⟨i - 1, by omega⟩
                rw [ndAt_word _ _ (by omega)]
                refine Eq.trans ?_ (HY.out j (by omega))
                rcases (by omega : j = 0 ∨ j = 1 ∨ j = 2 ∨ j = 3 ∨ j = 4 ∨ j = 5 ∨ j = 6 ∨ j = 7 ∨ j = 8 ∨ j = 9 ∨ j = 10 ∨ j = 11 ∨ j = 12 ∨ j = 13 ∨ j = 14 ∨ j = 15 ∨ j = 16) with rfl | rfl | rfl | rfl | rfl | rfl | rfl | rfl | rfl | rfl | rfl | rfl | rfl | rfl | rfl | rfl | rfl <;> rfl
              rcases (by omega : i = 0 ∨ i = 18 ∨ i = 27) with rfl | rfl | rfl
              · rfl
              · rfl
              · show some (Value.int .i64 q.height) = some (.int .i64 ((q.height.toNat : Nat) : Int))
                rw [Int.toNat_of_nonneg HH.out])
            rw [hx7]
            rw [h0] at c12
            clear HG HF HO HV har hA hB hC h0 HK hx7 hY hy hr2
            go_upto_region 12 with fail
            go_region_held3 (fun w' => w'.cell? ⟨ob, 2, none⟩ = some (.string q.key) ∧ w'.cell? ⟨ob, 20, none⟩ = some (.int .i64 q.ref) ∧ w'.cell? ⟨ob, 21, none⟩ = some (.int .i64 q.height) ∧ w'.rangeAt ob 3 [y0, y1, y2, y3, y4, y5, y6, y7, y8, y9, y10, y11, y12, y13, y14, y15, y16])
              (first | exact ⟨c2, c20, c21, HRW.out⟩ | exact ⟨((Kept.refl [] _).alloc _).cell c2 (by simp), ((Kept.refl [] _).alloc _).cell c20 (by simp), ((Kept.refl [] _).alloc _).cell c21 (by simp), (World.rangeAt_drew _ _ _ _).2 (World.rangeAt_alloc HRW.out _)⟩ | go_keep) (fail)
            clear hu hi2 c0 c1 c2 c12 c20 c21
            have hX2 := (HX1.out.beside (Has.madeNode w1 ⟨q.key, q.wd, q.ref, q.height.toNat, fun _ => 0, false⟩ _ rfl (HCN.out _ rfl))).quiet ((Kept.refl [] _).drew)
            generalize World.drew (w1.alloc _) = w2 at *
            generalize w1.heap.size = nb at *
            clear HX1 HCN HY HRW
            have HX2 := Lib.hid hX2
            obtain ⟨oL2, hL2, _⟩ := hX2.left
            have c0 : w2.cell? ⟨ob, 0, none⟩ = some (.pointer (some ⟨b, 0, none⟩)) := (so_cell hL2 0 (by omega)).1
            clear hX2 hL2
            go_wp2_with fail
            refine (HGR.out _ _ HX2.out).mono ?_
            rintro e w3 ⟨rfl, S3, c3, hr3, hX3⟩
            have HR3 := Lib.hid hr3
            obtain ⟨oL3, hL3, _, _, bL3⟩ := hX3.left
            have d0 : w3.cell? ⟨ob, 0, none⟩ = some (.pointer (some ⟨b, 0, none⟩)) := (so_cell hL3 0 (by omega)).1
            obtain ⟨d42, z42⟩ := so_cell hL3 42 (by omega)
            obtain ⟨_, f1⟩ := so_fields hL3
            obtain ⟨oS3, hS3, _⟩ := so_list hL3
            obtain ⟨⟨ps, cc, hnv⟩, hmx⟩ := SkP.slice hS3
            have f1 : w3.cell? ⟨b, 1, none⟩ = some x.nv := f1
            have hnv : x.nv = .slice ps T.nN cc := hnv
            rw [hnv] at f1
            have HNV := Lib.hid hnv
            have hX4 := bL3 _ _ (so_own hL3 (T.nN : Int))
            have HX4 := Lib.hid hX4
            obtain ⟨oS4, hS4, _⟩ := so_list (Has.fst hX4)
            obtain ⟨oR4, hR4⟩ := SkP.rows hS4
            have hrow := hR4.rowsOwn
            have hrow : (w3.setCell ⟨ob, 42, none⟩ (.int .i64 (T.nN : Int))).ownsRow 0 77 1 x.nv T.nN (flatN T.nN (ptrF x.nb)) := hrow
            rw [hnv] at hrow
            have HROW := Lib.hid hrow
            have e0 : (w3.setCell ⟨ob, 42, none⟩ (.int .i64 (T.nN : Int))).cell? ⟨ob, 0, none⟩ = some (.pointer (some ⟨b, 0, none⟩)) := (so_cell (Has.fst hX4) 0 (by omega)).1
            have e1 : (w3.setCell ⟨ob, 42, none⟩ (.int .i64 (T.nN : Int))).cell? ⟨b, 1, none⟩ = some (.slice ps T.nN cc) := by
              rw [← hnv]; exact (so_fields (Has.fst hX4)).2
            obtain ⟨i0, hi0, hz0, hz1, hz2⟩ := info_parts info_ptr
            have hNN := HNN.out
            have h9 : T.nN ≤ 9223372036854775807 := by omega
            clear hX3 hL3 hS3 hmx hnv hX4 hS4 hR4 hrow hr3 HX2 HGR c0 hNN
            go_upto_region 17 with fail
            generalize w3.setCell ⟨ob, 42, none⟩ (.int .i64 (T.nN : Int)) = w4 at *
            clear hrow
            have HROWD := Lib.hid (show w4.drew.ownsRow 0 77 1 (.slice ps T.nN cc) T.nN (flatN T.nN (ptrF x.nb)) from HROW.out)
            have HX4D := Lib.hid (HX4.out.quiet ((Kept.refl [] _).drew))
            clear HROW f1 d0 d42 z42 bL3
            have e0a : (w4.alloc (.cells #[.pointer (some ⟨nb, 0, none⟩)] 77)).cell? ⟨ob, 0, none⟩ = some (.pointer (some ⟨b, 0, none⟩)) := ((Kept.refl [] _).alloc _).cell e0 (by simp)
            have e1a : (w4.alloc (.cells #[.pointer (some ⟨nb, 0, none⟩)] 77)).cell? ⟨b, 1, none⟩ = some (.slice ps T.nN cc) := ((Kept.refl [] _).alloc _).cell e1 (by simp)
            go_region_law
              (refine step_append_new rfl (.tmp 164) (.tmp 166) 71 rfl 77 i0 (.pointer none) 1 8 Tryd.underlying71 hi0 hz0 hz1 hz2 rfl (by decide) (.slice ps T.nN cc) T.nN (flatN T.nN (ptrF x.nb)) rfl (HROWD.out.alloc _) ⟨_, 0, none⟩ 1 1 [.pointer (some ⟨nb, 0, none⟩)] rfl rfl (cells_one _ _ _ _ (by simp)) (by simp [Value.oneCell']) (by have := HNN.out; simp only [maxLen]; omega) (by have := HNN.out; omega) ?_
               intro v' w5 happ
               rw [← HNV.out] at happ
               obtain ⟨hy0, y2, z2, hP⟩ := so_more _ HX4D.out happ
               have w50 : w5.cell? ⟨ob, 0, none⟩ = some (.pointer (some ⟨b, 0, none⟩)) := hy0 0 (by omega)
               clear hy0
               obtain ⟨gv, vcap, rfl⟩ : ∃ gv vcap, v' = .slice (some ⟨gv, 0, none⟩) (T.nN + 1) vcap := by
                 rcases rowN_open happ.row with ⟨_, h0⟩ | ⟨gv, vc, e, _⟩
                 · omega
                 · exact ⟨gv, vc, e⟩
               have HP := Lib.hid hP
               clear happ hP)
            all_goals (
              obtain ⟨p22, z22⟩ := so_cell HP.out 22 (by omega)
              go_wp2_with fail
              go_ret
              rw [HAR.out]
              exact ⟨rfl, _, HR3.out, so_does HP.out 1⟩)
end Go.Proofs.YtpckpgdkfimapaaDoor
