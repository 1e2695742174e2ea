/- Append walked. -/
import Derived.Test.YtbankfdgoolbdaaDkApp
namespace Go.Proofs.Ytbankfdgoolbdaa
open Go Go.RowKit Go.Lib
set_option linter.unusedVariables false
variable {o : List Nat} {w0 w w' w1 w3 w4 w5 : World} {db : Nat} {a : ADk} {L : DLay}

theorem MapAt.lookA {b : Nat} {l : List (Nm × Value)} (h : MapAt w b l) (s : ByteArray) (hs : s.size ≤ maxLen) (ob : Obj) :
    (Instr.lookup 60 (.map (some b)) (.string s) false).run Try.prog (w.alloc ob) = .ok ((alFind l s.data.toList).getD (.pointer none)) (w.alloc ob) :=
  (h.of_heap (w' := w.alloc ob) (Below.heap_alloc w ob b h.lt)).look s hs

set_option maxHeartbeats 20000000 in
set_option maxRecDepth 100000 in
theorem append_walk (h : Has o w w (Dk db a)) (x : ByteArray) (bv : Value) (bs : List UInt8) (hB : ∀ w', Kept o w w' → BytesX w' bv bs) :
    Calls Try.prog 14 #[ptr db, .string x, bv] w fun e w' => e = .returned (.int .i64 (a.append x.data.toList bs).1) ∧ Has o w w' (Dk db (a.append x.data.toList bs).2) := by
  have HR := Lib.hid (refused_beside (h.beside (made_box w (.string x) 9)) false [x] (by simp) (by simp) 9)
  have HOK := Lib.hid (dk_open h).1
  have hsz : (w.alloc (.cells #[.string x] 9)).heap.size = w.heap.size + 1 := by simp
  rw [hsz] at HR
  obtain ⟨bp, bc, hbv, _⟩ := (hB w (Kept.refl _ _)).out
  have HB := Lib.hid hB
  have HBV := Lib.hid hbv
  rw [hbv]
  clear h hB hbv hsz
  unfold ptr at *
  go_enter Try.func14, Try.ntmps14
  go_wp2_with fail
  refine HR.out.mono ?_
  rintro e w3 ⟨rfl, h3⟩
  clear HR
  have c1 : w3.cell? ⟨w.heap.size, 0, none⟩ = some (.string x) := by
    obtain ⟨o4, h4, _⟩ := h3.right
    exact (h4.blkAt (by omega)).1
  by_cases hbad : a.powered.bad false [x.data.toList] = 0
  · obtain ⟨_, hnm, _, hops⟩ := bad_off hbad
    simp only [List.all_cons, List.all_nil, Bool.and_true] at hnm
    have hszx := nm_le hnm
    change x.size ≤ maxLen at hszx
    have HNM := Lib.hid hnm
    have HOP := Lib.hid hops
    have HBAD := Lib.hid hbad
    obtain ⟨o4, h4, _, _, b4⟩ := h3.left
    obtain ⟨hok, L, hL⟩ := dk_open h4
    have H3 := Lib.hid (b4 _ _ hL)
    have HPO := Lib.hid hok
    have c0 : w3.cell? ⟨db, 0, none⟩ = some (.map (some L.mb)) := (dkl_cell hL 0 (by omega)).1
    have hM := dkl_now hL
    have hb0 : ((0 : Int) != 0) = false := rfl
    simp only [List.map_cons, List.map_nil]
    rw [hbad]
    cases hf : alFind a.powered.now x.data.toList with
    | none =>
      have hlk0 := hM.lookD x hszx 1
      have hlk1 := (hM.of_heap (w' := w3.alloc (.cells #[.pointer none] 69)) (Below.heap_alloc w3 _ L.mb hM.lt)).lookD x hszx 1
      change Sem.run Try.prog _ w3.drew = .ok _ w3.drew at hlk0
      change Sem.run Try.prog _ (w3.alloc (.cells #[.pointer none] 69)).drew = .ok _ (w3.alloc (.cells #[.pointer none] 69)).drew at hlk1
      have ka : Kept [] w3 (w3.alloc (.cells #[.pointer none] 69)) := (Kept.refl _ _).alloc _
      have c1a := ka.cell c1 (by simp)
      have c0a := ka.cell c0 (by simp)
      rw [dirV_find, hf] at hlk0 hlk1
      simp only [Option.map_none, Option.getD_none] at hlk0 hlk1
      have HF := Lib.hid hf
      have H4 := Lib.hid ((H3.out.beside (made_box w3 (.pointer none) 69)).quiet ((Kept.refl [] _).drewN 1))
      change Hid (Has o w ((w3.alloc (.cells #[.pointer none] 69)).drew) _) at H4
      clear ka hf h3 h4 b4 hL hok hnm hszx hbad hops H3 hM
      go_wp2_with fail
      go_region
      all_goals (
        clear c0 c1 c0a c1a hlk0 hlk1
        obtain ⟨fb, hfb⟩ : ∃ fb, w3.heap.size = fb := ⟨_, rfl⟩
        rw [hfb] at H4 ⊢
        clear hfb
        generalize (w3.alloc (.cells #[.pointer none] 69)).drew = w4 at *
        have hD4 := H4.out.fst.fst
        have c0 : w4.cell? ⟨db, 0, none⟩ = some (.map (some L.mb)) := (dkl_cell hD4 0 (by omega)).1
        obtain ⟨o5, h5, _⟩ := H4.out.right
        obtain ⟨cf, ff, _⟩ := h5.blkAt (i := 0) (by omega)
        have h5x := Lib.hid h5
        have hlen := (dkl_now hD4).len 3
        rw [dirV_len] at hlen
        clear hD4 h5
        by_cases h64 : 64 ≤ a.powered.now.length
        · have d5 : decide (64 ≤ (a.powered.now.length : Int)) = true := by simp; omega
          have HE : Hid (a.append x.data.toList bs = (23, a.powered)) := Lib.hid (by unfold ADk.append; simp only [HBAD.out, HF.out, if_pos (Or.inl h64)]; rfl)
          clear h64
          go_wp2_with fail
          go_ret
          rw [HE.out]
          exact ⟨rfl, dk_shut HPO.out L H4.out.fst.fst⟩
        · have d5 : decide (64 ≤ (a.powered.now.length : Int)) = false := by simp; omega
          by_cases hbig : 262144 < bs.length
          · have d6 : decide (262144 < (bs.length : Int)) = true := by simp; omega
            have HE : Hid (a.append x.data.toList bs = (23, a.powered)) := Lib.hid (by unfold ADk.append; simp only [HBAD.out, HF.out, if_pos (Or.inr hbig)]; rfl)
            clear h64 hbig
            go_wp2_with fail
            go_ret
            rw [HE.out]
            exact ⟨rfl, dk_shut HPO.out L H4.out.fst.fst⟩
          · have d6 : decide (262144 < (bs.length : Int)) = false := by simp; omega
            have HE : Hid (a.append x.data.toList bs = (0, (ADk.change { a.powered with fs := a.powered.fs ++ [AFile.mk bs 0] } (.mk x.data.toList a.powered.fs.length)).did)) := Lib.hid (by unfold ADk.append; simp only [HBAD.out, HF.out, if_neg (not_or.2 ⟨h64, hbig⟩)]; rfl)
            have HBIG := Lib.hid hbig
            have H64 := Lib.hid h64
            have ka : Kept [] w4 (w4.alloc (.cells #[.slice none 0 0, .int .i64 0] 71)) := (Kept.refl _ _).alloc _
            have hfbl : fb < w4.heap.size := by
              obtain ⟨_, ⟨hbk, _⟩, _⟩ := h5x.out
              exact hbk.lt
            have cfa := ka.cell cf (by simp)
            have ffa := (ka.frozen (i := 0) hfbl (by simp)).trans ff
            have hN := app_new (s := x.data.toList) (by rw [nmV_of]; exact H4.out) HPO.out
            obtain ⟨nb, hnb⟩ : ∃ nb, w4.heap.size = nb := ⟨_, rfl⟩
            rw [hnb] at hN
            have hok2 : ({ a.powered with fs := a.powered.fs ++ [⟨[], 0⟩] } : ADk).Ok := HPO.out.files _ (by simp) fun f hf => by
              rcases List.mem_append.1 hf with hf | hf
              · exact HPO.out.fs f hf
              · simp at hf; subst hf; exact ⟨Nat.zero_le _, Nat.le_refl _⟩
            have hc := change_boxed hN hok2 (dk_len hok2) (l' := alPut a.powered.now x.data.toList a.powered.fs.length) (by
              show (if (alFind a.powered.now x.data.toList).isNone && decide (a.powered.now.length < 64) then _ else _) = _
              rw [HF.out, if_pos (by simp; omega)]) HNM.out
            have HC := Lib.hid (show Calls Try.prog 33 #[.pointer (some ⟨db, 0, none⟩), .func (.func 35) #[] #[.pointer (some ⟨fb, 0, none⟩), .pointer (some ⟨w.heap.size, 0, none⟩)]] _ _ from hc)
            unfold ptr at HC
            have HNB := Lib.hid hnb
            clear h64 hbig hN hok2 hc ka hfbl h5x hnb
            go_wp2_with fail
            rw [HNB.out]
            refine HC.out.mono ?_
            rintro e w7 ⟨rfl, L', hL1, hL2, hbx, h7⟩
            have hi7 : a.powered.fs.length < (ADk.change { a.powered with fs := a.powered.fs ++ [AFile.mk [] 0] } (.mk x.data.toList a.powered.fs.length)).fs.length := by
              show a.powered.fs.length < (a.powered.fs ++ [AFile.mk [] 0]).length
              simp
            have hfl : (ADk.change { a.powered with fs := a.powered.fs ++ [AFile.mk [] 0] } (.mk x.data.toList a.powered.fs.length)).file a.powered.fs.length = ⟨[], 0⟩ := by
              unfold ADk.file
              show (a.powered.fs ++ [AFile.mk [] 0]).getD a.powered.fs.length ⟨[], 0⟩ = _
              simp
            have had : L'.addr a.powered.fs.length = nb := by rw [hL1]; simp
            have hbvn : L'.bv a.powered.fs.length = .slice none 0 0 := by rw [hL2]; simp
            have h7d := h7.quiet ((Kept.refl [] w7).drewN 1)
            change Has o w w7.drew _ at h7d
            have hBy := HB.out _ h7d.keeps
            obtain ⟨o8, hF8, _⟩ := dkl_file h7d hi7
            have hrow := (file_at hF8).2.2.2.2.2
            rw [hfl, hbvn] at hrow
            have hd0 := (file_at hF8).1
            rw [had, hbvn] at hd0
            obtain ⟨v', w8, hrun, happ⟩ := run_append_bytes w7.drew _ bv [] bs hrow hBy (by have := HBIG.out; simp; omega)
            rw [HBV.out] at hrun
            simp only [List.nil_append] at happ
            obtain ⟨hk8, e0, z0, hD8⟩ := dkl_app (ys := bs) h7d hi7 (v' := v') (w5 := w8) (by rw [hfl, hbvn]; exact happ)
            rw [had] at e0 z0 hD8
            rw [hbvn] at e0
            rw [hfl] at hD8
            simp only [List.nil_append] at hD8
            obtain ⟨pv, cv, rfl⟩ := rowSlice happ.row
            have hfb7 : w7.cell? ⟨fb, 0, none⟩ = some (.pointer (some ⟨nb, 0, none⟩)) := by
              have := hbx.1
              simp only [if_true] at this
              exact this
            have hfb8 : w8.cell? ⟨fb, 0, none⟩ = some (.pointer (some ⟨nb, 0, none⟩)) := by
              have kk : Kept [] w7.drew w8 := (Kept.refl _ _).grown happ.grown fun b _ e => by simp [Value.ownBlock] at e
              exact kk.cell (w := w7.drew) hfb7 (by simp)
            have hd0' : w7.cell? ⟨nb, 0, none⟩ = some (.slice none 0 0) := hd0
            have hfin : ADk.did { (ADk.change { a.powered with fs := a.powered.fs ++ [AFile.mk [] 0] } (.mk x.data.toList a.powered.fs.length)) with fs := (ADk.change { a.powered with fs := a.powered.fs ++ [AFile.mk [] 0] } (.mk x.data.toList a.powered.fs.length)).fs.set a.powered.fs.length ⟨bs, 0⟩ } = (ADk.change { a.powered with fs := a.powered.fs ++ [AFile.mk bs 0] } (.mk x.data.toList a.powered.fs.length)).did := by
              unfold ADk.did ADk.change
              simp
            obtain ⟨m, hm⟩ : ∃ m, a.powered.ops = m := ⟨_, rfl⟩
            have HD9 := Lib.hid (show Has o w ((w8.setCell ⟨nb, 0, none⟩ (.slice pv bs.length cv)).setCell ⟨db, 3, none⟩ (.int .i64 ((m : Int) + 1))) _ from dkl_didN hD8 hm)
            rw [hfin] at HD9
            obtain ⟨c3, f3⟩ := dkl_cell hD8 3 (by omega)
            replace c3 : (w8.setCell ⟨nb, 0, none⟩ (.slice pv bs.length cv)).cell? ⟨db, 3, none⟩ = some (.int .i64 m) := by rw [c3, ← hm]; rfl
            have hops := HOP.out
            rw [hm] at hops
            have HOK2 := Lib.hid (a.append_ok HOK.out x.data.toList bs)
            have HK8 := Lib.hid hk8
            clear h7 h7d hF8 hrow hBy happ hD8 hk8 hfl hL1 hL2 hbvn hi7 hbx cfa ffa hfin hm
            have HST := Lib.hid hrun
            clear hrun
            go_wp2_with fail
            go_region_law (refine step_append_run rfl (.tmp 65) (.tmp 66) 27 rfl _ _ rfl rfl HST.out ?_)
            all_goals (
              go_wp2_with fail
              go_ret
              rw [HE.out] at HOK2 ⊢
              exact ⟨rfl, dk_shut HOK2.out _ HD9.out⟩))
    | some fi =>
      have hlk0 := hM.lookD x hszx 1
      have hlk1 := (hM.of_heap (w' := w3.alloc (.cells #[.pointer none] 69)) (Below.heap_alloc w3 _ L.mb hM.lt)).lookD x hszx 1
      change Sem.run Try.prog _ w3.drew = .ok _ w3.drew at hlk0
      change Sem.run Try.prog _ (w3.alloc (.cells #[.pointer none] 69)).drew = .ok _ (w3.alloc (.cells #[.pointer none] 69)).drew at hlk1
      have ka : Kept [] w3 (w3.alloc (.cells #[.pointer none] 69)) := (Kept.refl _ _).alloc _
      have c1a := ka.cell c1 (by simp)
      have c0a := ka.cell c0 (by simp)
      rw [dirV_find, hf] at hlk0 hlk1
      simp only [Option.map_some, Option.getD_some, ptr] at hlk0 hlk1
      have HF := Lib.hid hf
      have hlt : fi < a.powered.fs.length := hok.now.ids _ (alFind_mem hf)
      have HLT := Lib.hid hlt
      have HFO := Lib.hid (a.powered.file_ok hok fi)
      have H4 := Lib.hid ((H3.out.beside (made_box w3 (.pointer (some ⟨L.addr fi, 0, none⟩)) 69)).quiet ((Kept.refl [] _).drewN 1))
      change Hid (Has o w ((w3.alloc (.cells #[.pointer (some ⟨L.addr fi, 0, none⟩)] 69)).drew) _) at H4
      clear ka hf h3 h4 b4 hL hok hnm hszx hbad hops H3 hM hlt
      go_wp2_with fail
      go_region
      all_goals (
        clear c0 c1 c0a c1a hlk0 hlk1
        obtain ⟨fb, hfb⟩ : ∃ fb, w3.heap.size = fb := ⟨_, rfl⟩
        rw [hfb] at H4 ⊢
        clear hfb
        generalize (w3.alloc (.cells #[.pointer (some ⟨L.addr fi, 0, none⟩)] 69)).drew = w4 at *
        have hD4 := H4.out.fst.fst
        obtain ⟨o5, h5, _⟩ := H4.out.right
        obtain ⟨cf, ff, _⟩ := h5.blkAt (i := 0) (by omega)
        obtain ⟨o6, hF, _⟩ := dkl_file hD4 HLT.out
        obtain ⟨d0, _, _, _, ⟨p, c, hv⟩, hrow⟩ := file_at hF
        have D0 := Lib.hid hv
        rw [hv] at d0
        have HROW := Lib.hid hrow
        clear hD4 h5 hF hrow hv
        by_cases hbig : 262144 < bs.length + (a.powered.file fi).b.length
        · have d7 : decide ((262144 : Int) - ((a.powered.file fi).b.length : Int) < (bs.length : Int)) = true := by simp; omega
          have HE : Hid (a.append x.data.toList bs = (23, a.powered)) := Lib.hid (by unfold ADk.append; simp only [HBAD.out, HF.out, if_pos hbig]; rfl)
          have hl9 := HFO.out.1
          generalize (a.powered.file fi).b.length = m at *
          clear hbig
          go_wp2_with fail
          go_ret
          rw [HE.out]
          exact ⟨rfl, dk_shut HPO.out L H4.out.fst.fst⟩
        · have d7 : decide ((262144 : Int) - ((a.powered.file fi).b.length : Int) < (bs.length : Int)) = false := by simp; omega
          have HE : Hid (a.append x.data.toList bs = (0, ADk.did { a.powered with fs := a.powered.fs.set fi ⟨(a.powered.file fi).b ++ bs, (a.powered.file fi).sy⟩ })) := Lib.hid (by unfold ADk.append; simp only [HBAD.out, HF.out, if_neg hbig]; rfl)
          have h4d := H4.out.quiet ((Kept.refl [] w4).drewN 1)
          change Has o w w4.drew _ at h4d
          have hBy := HB.out _ h4d.keeps
          obtain ⟨o5, hX, _, _, back5⟩ := h4d.left
          obtain ⟨o6, hY, _, _, back6⟩ := hX.left
          obtain ⟨v', w8, hrun, happ⟩ := run_append_bytes w4.drew (L.bv fi) bv (a.powered.file fi).b bs HROW.out hBy (by omega)
          obtain ⟨hk8, e0, z0, hD8⟩ := dkl_app (ys := bs) hY HLT.out (v' := v') (w5 := w8) happ
          have hfb8 : w8.cell? ⟨fb, 0, none⟩ = some (.pointer (some ⟨L.addr fi, 0, none⟩)) := by
            have := back5 w8 _ (back6 w8 Part.emp ⟨[], rfl, by simp, hk8⟩)
            obtain ⟨_, h9, _⟩ := this.right
            exact (h9.blkAt (i := 0) (by omega)).1
          obtain ⟨pv, cv, rfl⟩ := rowSlice happ.row
          have hDf := (back5 _ _ (back6 _ _ hD8)).fst.fst
          obtain ⟨n, hN⟩ : ∃ n, a.powered.ops = n := ⟨_, rfl⟩
          have HD9 := Lib.hid (show Has o w ((w8.setCell ⟨L.addr fi, 0, none⟩ (.slice pv ((a.powered.file fi).b ++ bs).length cv)).setCell ⟨db, 3, none⟩ (.int .i64 ((n : Int) + 1))) _ from dkl_didN hDf hN)
          obtain ⟨c3, f3⟩ := dkl_cell hDf 3 (by omega)
          replace c3 : (w8.setCell ⟨L.addr fi, 0, none⟩ (.slice pv ((a.powered.file fi).b ++ bs).length cv)).cell? ⟨db, 3, none⟩ = some (.int .i64 n) := by rw [c3, ← hN]; rfl
          have hops := HOP.out
          rw [hN] at hops
          have HOK2 := Lib.hid (a.append_ok HOK.out x.data.toList bs)
          have hl9 := HFO.out.1
          rw [D0.out, HBV.out] at hrun
          rw [D0.out] at e0
          have HST := Lib.hid hrun
          have HLL := Lib.hid (show ((a.powered.file fi).b ++ bs).length = ((a.powered.file fi).b ++ bs).length from rfl)
          generalize ((a.powered.file fi).b ++ bs).length = m2 at *
          generalize (a.powered.file fi).b.length = m at *
          clear hbig h4d hBy hX hY back5 back6 happ hD8 hDf hrun hN hk8
          go_wp2_with fail
          go_region_law (refine step_append_run rfl (.tmp 65) (.tmp 66) 27 rfl _ _ rfl rfl HST.out ?_)
          all_goals (
            go_wp2_with fail
            go_ret
            rw [HE.out] at HOK2 ⊢
            exact ⟨rfl, dk_shut HOK2.out _ HD9.out⟩))
  · have HE : Hid (a.append x.data.toList bs = (a.powered.bad false [x.data.toList], a.powered)) := Lib.hid (by unfold ADk.append; simp only [if_pos hbad])
    have hb0 : (a.powered.bad false [x.data.toList] != 0) = true := by simpa using hbad
    have hb1 : (a.powered.bad false [x.data.toList] = 0) ↔ False := by simpa using hbad
    have H3 := Lib.hid h3.fst
    simp only [List.map_cons, List.map_nil]
    generalize a.powered.bad false [x.data.toList] = n at *
    clear h3 hbad
    go_wp2_with fail
    go_ret
    rw [HE.out]
    exact ⟨rfl, H3.out⟩

end Go.Proofs.Ytbankfdgoolbdaa
