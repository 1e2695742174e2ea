/- The reference's Append walked.
A script on a disk that lies beside another part.
What DiskPrefix and DiskCuts say of scripts, told plainly. Nothing is claimed of a program here.
DiskPrefix walked. -/
import Derived.Test.YtbankfdgoolbdaaMPlays9
import Derived.Test.YtbankfdgoolbdaaMPlays7
import Derived.Test.YtbankfdgoolbdaaMPlays6
namespace Go.Proofs.Ytbankfdgoolbdaa
open Go Go.RowKit Go.Lib
set_option linter.unusedVariables false
variable {o : List Nat} {w0 w w' w1 : World} {rb : Nat} {a : ADk} {L : RLay} {l' : Dir}

theorem app_grown {q : ADk} {nb : Nat} {w5 : World} {v5 fvl : Value} {ob : Obj} (h : Has o w0 w (RfL rb q L)) (hB : Has [] w w' (fileRP nb (.slice none 0 0) ⟨[], 0⟩)) (hfv : L.fv = fvl)
    (happ : Appended (w'.alloc ob) w5 91 1 fvl v5 (q.fs.length + 1) (ptrsV L.addr q.fs.length ++ [.pointer (some ⟨nb, 0, none⟩)])) :
    (w5.cell? ⟨rb, 0, none⟩ = some fvl ∧ w5.frozen? ⟨rb, 0, none⟩ = false) ∧ ∃ vp vn vc, v5 = .slice vp vn vc ∧ ∃ L2, Has o w0 (w5.setCell ⟨rb, 0, none⟩ (.slice vp vn vc)) (RfL rb { q with fs := q.fs ++ [⟨[], 0⟩] } L2) := by
  subst hfv
  obtain ⟨h1, h2⟩ := rfl_grow h hB happ
  refine ⟨h1, ?_⟩
  obtain ⟨vp, vn, vc, rfl⟩ : ∃ vp vn vc, v5 = .slice vp vn vc := by
    rcases rowN_open happ.row with ⟨rfl, _⟩ | ⟨g, c, rfl, _⟩
    · exact ⟨_, _, _, rfl⟩
    · exact ⟨_, _, _, rfl⟩
  exact ⟨vp, vn, vc, rfl, _, h2⟩

set_option maxHeartbeats 20000000 in
set_option maxRecDepth 100000 in
theorem rappend_walk (h : Has o w w (Rf rb a)) (x : ByteArray) (hx : x.size ≤ maxLen) (bv : Value) (bs : List UInt8) (hB : ∀ w', Kept o w w' → BytesX w' bv bs) :
    Calls Try.prog 40 #[ptr rb, .string x, bv] w fun e w' => e = .returned (.int .i64 (a.append x.data.toList bs).1) ∧ Has o w w' (Rf rb (a.append x.data.toList bs).2) := by
  have HM := Lib.hid (may_walk h)
  have HX := Lib.hid (fun W => refName_walk x W hx)
  have HOK := Lib.hid (rf_open h).1
  have HOF := Lib.hid (rf_okf h)
  have HOK2 := Lib.hid (a.append_okf HOF.out x.data.toList bs)
  obtain ⟨bp, bc, hbv, _⟩ := (hB w (Kept.refl _ _)).out
  have HB := Lib.hid hB
  have HBV := Lib.hid hbv
  rw [hbv]
  clear h hB hbv hx
  unfold ptr at *
  go_enter Try.func40, Try.ntmps40
  go_wp2_with fail
  refine HM.out.mono ?_
  rintro e w2 ⟨rfl, h2⟩
  have H2 := Lib.hid h2
  clear HM h2
  have HBAD := Lib.hid (bad_false a.powered x.data.toList)
  have HAPP : Hid (a.powered.bad false [x.data.toList] ≠ 0 → a.append x.data.toList bs = (a.powered.bad false [x.data.toList], a.powered)) := Lib.hid (fun hne => by unfold ADk.append; simp only; rw [if_pos hne])
  cases hoff : a.powered.off with
  | true =>
    have hz : a.powered.bad false [x.data.toList] = 24 := by rw [HBAD.out, hoff]; rfl
    have HRES := Lib.hid (HAPP.out (by rw [hz]; decide))
    rw [hz] at HRES
    clear hoff hz
    go_wp2_with fail
    go_ret
    rw [HRES.out]
    exact ⟨rfl, H2.out⟩
  | false =>
  go_wp2_with fail
  refine (HX.out _).mono ?_
  rintro e w3 ⟨rfl, k3⟩
  have H3 := Lib.hid (H2.out.quiet k3)
  clear k3 HX H2
  cases hnm : isNm x.data.toList with
  | false =>
    have hz : a.powered.bad false [x.data.toList] = 20 := by rw [HBAD.out, hoff, hnm]; rfl
    have HRES := Lib.hid (HAPP.out (by rw [hz]; decide))
    rw [hz] at HRES
    clear hoff hz hnm
    go_wp2_with fail
    go_ret
    rw [HRES.out]
    exact ⟨rfl, H3.out⟩
  | true =>
  have HFULL := Lib.hid (fun hq => app_full (bs := bs) hoff hnm hq)
  obtain ⟨hok, L, hL⟩ := rf_open H3.out
  have HL := Lib.hid hL
  have HNM := Lib.hid hnm
  have HOFF := Lib.hid hoff
  have c3 : w3.cell? ⟨rb, 3, none⟩ = some L.nv := (rfl_cell hL 3 (by omega)).1
  have c4 : w3.cell? ⟨rb, 4, none⟩ = some (.int .i64 a.powered.ops) := (rfl_cell hL 4 (by omega)).1
  obtain ⟨c0, f0⟩ : w3.cell? ⟨rb, 0, none⟩ = some L.fv ∧ w3.frozen? ⟨rb, 0, none⟩ = false := rfl_cell hL 0 (by omega)
  have HF := find_walk (rfl_now hL) x
  obtain ⟨np, nc, hnv, _⟩ := (rfl_now hL).len
  rw [hnv] at c3 HF
  cases hf : alFind a.powered.now x.data.toList with
  | none =>
    rw [show foundV a.powered.now x.data.toList = -1 by unfold foundV; rw [hf]] at HF
    have HF := Lib.hid HF
    by_cases ho : 65536 ≤ a.powered.ops
    · have d1 : ((65536 : Int) ≤ (a.powered.ops : Int)) ↔ True := by simp; omega
      have HRES := Lib.hid (HFULL.out (.inl ho))
      generalize a.powered.now.length = nl at *
      clear hoff hnm hok hL hnv hf ho c0 f0
      go_wp2_with fail
      refine HF.out.mono ?_
      rintro e w4 ⟨rfl, rfl⟩
      go_wp2_with fail
      go_ret
      rw [HRES.out]
      exact ⟨rfl, H3.out⟩
    · have d1 : ((65536 : Int) ≤ (a.powered.ops : Int)) ↔ False := by simp; omega
      have ho' : a.powered.ops < 65536 := by omega
      by_cases hb1 : 262144 < bs.length
      · have d2 : ((262144 : Int) < (bs.length : Int)) ↔ True := by simp; omega
        have HRES := Lib.hid (HFULL.out (.inr (.inl (by rw [hf]; simpa using hb1))))
        generalize a.powered.now.length = nl at *
        clear hoff hnm hok hL hnv hf ho c0 f0 hb1
        go_wp2_with fail
        refine HF.out.mono ?_
        rintro e w4 ⟨rfl, rfl⟩
        go_wp2_with fail
        go_ret
        rw [HRES.out]
        exact ⟨rfl, H3.out⟩
      · have d2 : ((262144 : Int) < (bs.length : Int)) ↔ False := by simp; omega
        by_cases hl : 64 ≤ a.powered.now.length
        · have d3 : ((64 : Int) ≤ (a.powered.now.length : Int)) ↔ True := by simp; omega
          have HRES := Lib.hid (HFULL.out (.inr (.inr ⟨hf, hl⟩)))
          generalize a.powered.now.length = nl at *
          clear hoff hnm hok hL hnv hf ho c0 f0 hb1 hl
          go_wp2_with fail
          refine HF.out.mono ?_
          rintro e w4 ⟨rfl, rfl⟩
          go_wp2_with fail
          go_ret
          rw [HRES.out]
          exact ⟨rfl, H3.out⟩
        · have d3 : ((64 : Int) ≤ (a.powered.now.length : Int)) ↔ False := by simp; omega
          have HEND := Lib.hid (app_new_end (bs := bs) hoff hnm ho' hf (by omega) (by omega))
          have hon : (Chg.mk x.data.toList a.powered.fs.length).on a.powered.now = some (alPut a.powered.now x.data.toList a.powered.fs.length) := by
            show (if (alFind a.powered.now x.data.toList).isNone && decide (a.powered.now.length < 64) then _ else _) = _
            rw [hf, if_pos (by simp; omega)]
          have hbd := ok_bounds hok
          -- the new file
          obtain ⟨i0, hi, he⟩ := Option.map_eq_some_iff.1 info_ptr
          obtain ⟨hz0, hz1, hz2⟩ : i0.zero = some (.pointer none) ∧ i0.size = 1 ∧ i0.bytes = 8 := by simpa using he
          have hfl : a.powered.fs.length ≤ 1000000 := by
            have h1 := (rf_okf H3.out).few
            omega
          have hfile : Has [] w3 (w3.alloc (.cells #[.slice none 0 0, .int .i64 0] 90)) (fileRP w3.heap.size (.slice none 0 0) ⟨[], 0⟩) := by
            have h1 := Has.madeBlk (w := w3) #[.slice none 0 0, .int .i64 0] 90 (fileCells (.slice none 0 0) 0) 2 rfl (by
              intro i hi
              match i with
              | 0 | 1 => rfl
              | i + 2 => omega)
            exact h1.beside (row_none _)
          obtain ⟨o2, hp2, _⟩ := (hL.quiet hfile.keeps).rfPtrs
          obtain ⟨_, ⟨hr, _⟩, _⟩ := hp2.alloc (.cells #[.pointer (some ⟨w3.heap.size, 0, none⟩)] 91)
          have e0 : (ptrsV L.addr a.powered.fs.length).length = a.powered.fs.length := by simp [ptrsV]
          rw [e0] at hr
          have HFILE := Lib.hid hfile
          have HON := Lib.hid hon
          have HBD := Lib.hid hbd
          obtain ⟨fp, fc, hfv⟩ : ∃ fp fc, L.fv = .slice fp a.powered.fs.length fc := by
            obtain ⟨p, c, e⟩ := rowSlice hr
            exact ⟨p, c, e⟩
          have HFV := Lib.hid hfv
          rw [hfv] at c0 hr
          have HR := Lib.hid hr
          have HGROW := Lib.hid (fun (v5 : Value) (w5 : World) (happ : Appended ((w3.alloc (.cells #[.slice none 0 0, .int .i64 0] 90)).alloc (.cells #[.pointer (some ⟨w3.heap.size, 0, none⟩)] 91)) w5 91 1 (.slice fp a.powered.fs.length fc) v5 (a.powered.fs.length + 1) (ptrsV L.addr a.powered.fs.length ++ [.pointer (some ⟨w3.heap.size, 0, none⟩)])) =>
            app_grown HL.out HFILE.out hfv happ)
          generalize hnl : a.powered.now.length = nl at *
          generalize hflen : a.powered.fs.length = fl at *
          have HFL := Lib.hid hflen
          clear hoff hnm hok hL hnv hf ho hb1 hl hr hp2 hfile hon hbd hfv he hnl hflen e0
          go_wp2_with fail
          refine HF.out.mono ?_
          rintro e w4 ⟨rfl, rfl⟩
          go_upto_region 13 with fail
          go_wp2_with (at_builtin; refine wpList_append_new rfl (.tmp 69) (.tmp 72) 78 rfl 91 i0 (.pointer none) 1 8 Try.underlying78 hi hz0 hz1 hz2 rfl (by decide) _ _ _ rfl HR.out ⟨_, 0, none⟩ 1 1 [.pointer (some ⟨w4.heap.size, 0, none⟩)] rfl rfl (cell_made _ _ _ _ (by simp)) (by intro u hu; simp at hu; subst hu; rfl) (by simp only [maxLen]; omega) (by omega) ?_; intro v5 w5 happ; obtain ⟨⟨g0, gf⟩, vp, vn, vc, rfl, hG⟩ := HGROW.out v5 w5 happ; have HG := Lib.hid hG; clear hG; clear happ)
          obtain ⟨L2, hG2⟩ := HG.out
          have HC := Lib.hid (rchange_walk hG2 (ok_bounds HOK.out.powered).1 (ok_bounds HOK.out.powered).2 (.mk x.data.toList fl) HON.out HNM.out)
          unfold ptr at HC
          change Hid (Calls _ _ #[_, .agg #[.string ⟨#[]⟩, .string x, .int .i64 (fl : Nat)]] _ _) at HC
          clear hG2 HG
          refine HC.out.mono ?_
          rintro e W ⟨rfl, Lq, hLq⟩
          have hend := HEND.out
          obtain ⟨q, hq⟩ : ∃ q, (ADk.change { a.powered with fs := a.powered.fs ++ [AFile.mk [] 0] } (.mk x.data.toList fl)) = q := ⟨_, rfl⟩
          rw [hq] at hend hLq
          obtain ⟨fi, hfi⟩ : ∃ fi, fl = fi := ⟨_, rfl⟩
          rw [hfi] at hend ⊢
          clear HEND HC hq hfi HGROW HFILE HR g0 gf c0 c3 c4 f0
          -- the bytes
          have hLd := hLq.drewN 1
          change Has o w W.drew _ at hLd
          obtain ⟨g, c, hfv, hgc, _, cp⟩ := rfl_ptr hLd hend.lt
          have c0 : W.drew.cell? ⟨rb, 0, none⟩ = some Lq.fv := (rfl_cell hLd 0 (by omega)).1
          obtain ⟨o9, hF9, hoth, back9⟩ := rfl_other hLd hend.lt
          obtain ⟨e0, _, ff, _, ⟨bp, bc, hbv⟩, hrow⟩ := fileR_at hF9
          have hBy := HB.out _ hLd.keeps
          obtain ⟨v', w8, hrun, happ⟩ := run_append_bytes W.drew _ bv (q.file fi).b bs hrow hBy (by have := hend.room; omega)
          obtain ⟨⟨A8, hA8⟩, e8, f8, hF8⟩ := fileR_app hF9 happ
          obtain ⟨hc8, hp8⟩ := hoth w8 A8 hA8
          have c08 : w8.cell? ⟨rb, 0, none⟩ = some Lq.fv := hc8 0 (by omega)
          have cp8 := hp8 g q.fs.length c hfv fi hend.lt
          have hD8 := back9 _ _ _ hF8
          obtain ⟨vp, vn, vc, rfl⟩ : ∃ vp vn vc, v' = .slice vp vn vc := by
            rcases rowN_open happ.row with ⟨rfl, _⟩ | ⟨g, c, rfl, _⟩
            · exact ⟨_, _, _, rfl⟩
            · exact ⟨_, _, _, rfl⟩
          obtain ⟨c4, f4⟩ := rfl_cell hD8 4 (by omega)
          replace c4 : (w8.setCell ⟨Lq.addr fi, 0, none⟩ (.slice vp vn vc)).cell? ⟨rb, 4, none⟩ = some (.int .i64 q.ops) := c4
          have HD := Lib.hid (rfl_did hD8)
          have hops := hend.ops
          obtain ⟨m, hm⟩ : ∃ m, q.ops = m := ⟨_, rfl⟩
          rw [hm] at c4 hops
          have HD2 := Lib.hid (show ∃ L2, Has o w ((w8.setCell ⟨Lq.addr fi, 0, none⟩ (.slice vp vn vc)).setCell ⟨rb, 4, none⟩ (.int .i64 ((m : Int) + 1))) (RfL rb (ADk.did { q with fs := q.fs.set fi ⟨(q.file fi).b ++ bs, (q.file fi).sy⟩ }) L2) from ⟨_, by rw [← hm]; exact HD.out⟩)
          have HRES := Lib.hid hend.res
          rw [hbv] at e0 e8 hrun
          rw [HBV.out] at hrun
          rw [hfv] at c0 c08
          have HRUN := Lib.hid hrun
          unfold ptr at cp cp8
          have hd : decide (fi < q.fs.length) = true := decide_eq_true hend.lt
          have hd2 : fi < q.fs.length := hend.lt
          have hdc : fi < c := by have := hend.lt; omega
          generalize q.fs.length = fl2 at *
          generalize (q.file fi).b.length = bl2 at *
          clear hLd hLq hfv hF9 back9 hoth hA8 hc8 hp8 hbv hrow hBy hrun happ hF8 hD8 HD hend hm ff
          go_wp2_with fail
          go_region_law (refine step_append_run rfl (.tmp 97) (.tmp 98) 27 rfl _ _ rfl rfl HRUN.out ?_)
          all_goals (
            go_wp2_with fail
            go_ret
            rw [HRES.out] at HOK2 ⊢
            obtain ⟨L2, hD2⟩ := HD2.out
            exact ⟨rfl, rf_shut HOK2.out L2 hD2⟩)
  | some fi =>
    rw [show foundV a.powered.now x.data.toList = (fi : Nat) by unfold foundV; rw [hf]] at HF
    have HF := Lib.hid HF
    have hil : fi < a.powered.fs.length := hok.now.ids _ (alFind_mem hf)
    obtain ⟨g, c, hfv, hgc, _, cp⟩ := rfl_ptr hL hil
    rw [hfv] at c0
    obtain ⟨o9, hF9, _⟩ := rfl_file hL hil
    obtain ⟨e0, _, _, _, ⟨bp, bc, hbv⟩, _⟩ := fileR_at hF9
    rw [hbv] at e0
    have hfo := (a.powered.file_ok hok fi).1
    unfold ptr at cp
    have hd : decide (fi < a.powered.fs.length) = true := decide_eq_true hil
    have hdc : fi < c := by omega
    have HN3 : Hid (¬ (alFind a.powered.now x.data.toList = none ∧ 64 ≤ a.powered.now.length)) := Lib.hid (fun h => by rw [hf] at h; cases h.1)
    by_cases ho : 65536 ≤ a.powered.ops
    · have d1 : ((65536 : Int) ≤ (a.powered.ops : Int)) ↔ True := by simp; omega
      have HRES := Lib.hid (HFULL.out (.inl ho))
      generalize a.powered.now.length = nl at *
      generalize a.powered.fs.length = fl at *
      generalize (a.powered.file fi).b.length = bl at *
      clear hoff hnm hok hL hnv hf ho hfv hF9 hbv
      go_wp2_with fail
      refine HF.out.mono ?_
      rintro e w4 ⟨rfl, rfl⟩
      go_wp2_with fail
      go_ret
      rw [HRES.out]
      exact ⟨rfl, H3.out⟩
    · have d1 : ((65536 : Int) ≤ (a.powered.ops : Int)) ↔ False := by simp; omega
      have ho' : a.powered.ops < 65536 := by omega
      by_cases hb1 : 262144 < bs.length + (a.powered.file fi).b.length
      · have d2 : (262144 - ((a.powered.file fi).b.length : Int) < (bs.length : Int)) ↔ True := by simp; omega
        have HRES := Lib.hid (HFULL.out (.inr (.inl (by rw [hf]; exact hb1))))
        generalize a.powered.now.length = nl at *
        generalize a.powered.fs.length = fl at *
        generalize (a.powered.file fi).b.length = bl at *
        clear hoff hnm hok hL hnv hf ho hfv hF9 hbv hb1
        go_wp2_with fail
        refine HF.out.mono ?_
        rintro e w4 ⟨rfl, rfl⟩
        go_wp2_with fail
        go_ret
        rw [HRES.out]
        exact ⟨rfl, H3.out⟩
      · have d2 : (262144 - ((a.powered.file fi).b.length : Int) < (bs.length : Int)) ↔ False := by simp; omega
        have HEND := Lib.hid (app_old_end (bs := bs) hok hoff hnm ho' hf (by omega))
        generalize a.powered.now.length = nl at *
        generalize a.powered.fs.length = fl at *
        generalize (a.powered.file fi).b.length = bl at *
        clear hoff hnm hok hL hnv hf ho hfv hF9 hbv hb1
        go_wp2_with fail
        refine HF.out.mono ?_
        rintro e W ⟨rfl, rfl⟩
        go_upto_region 15 with fail
        have hL := HL.out
        have hend := HEND.out
        obtain ⟨q, hq⟩ : ∃ q, a.powered = q := ⟨_, rfl⟩
        rw [hq] at hend hL
        clear HEND c0 c3 c4 f0 e0 cp hd hdc hq
        -- the bytes
        have hLd := hL.drewN 1
        change Has o w W.drew _ at hLd
        obtain ⟨g, c, hfv, hgc, _, cp⟩ := rfl_ptr hLd hend.lt
        have c0 : W.drew.cell? ⟨rb, 0, none⟩ = some L.fv := (rfl_cell hLd 0 (by omega)).1
        obtain ⟨o9, hF9, hoth, back9⟩ := rfl_other hLd hend.lt
        obtain ⟨e0, _, ff, _, ⟨bp, bc, hbv⟩, hrow⟩ := fileR_at hF9
        have hBy := HB.out _ hLd.keeps
        obtain ⟨v', w8, hrun, happ⟩ := run_append_bytes W.drew _ bv (q.file fi).b bs hrow hBy (by have := hend.room; omega)
        obtain ⟨⟨A8, hA8⟩, e8, f8, hF8⟩ := fileR_app hF9 happ
        obtain ⟨hc8, hp8⟩ := hoth w8 A8 hA8
        have c08 : w8.cell? ⟨rb, 0, none⟩ = some L.fv := hc8 0 (by omega)
        have cp8 := hp8 g q.fs.length c hfv fi hend.lt
        have hD8 := back9 _ _ _ hF8
        obtain ⟨vp, vn, vc, rfl⟩ : ∃ vp vn vc, v' = .slice vp vn vc := by
          rcases rowN_open happ.row with ⟨rfl, _⟩ | ⟨g, c, rfl, _⟩
          · exact ⟨_, _, _, rfl⟩
          · exact ⟨_, _, _, rfl⟩
        obtain ⟨c4, f4⟩ := rfl_cell hD8 4 (by omega)
        replace c4 : (w8.setCell ⟨L.addr fi, 0, none⟩ (.slice vp vn vc)).cell? ⟨rb, 4, none⟩ = some (.int .i64 q.ops) := c4
        have HD := Lib.hid (rfl_did hD8)
        have hops := hend.ops
        obtain ⟨m, hm⟩ : ∃ m, q.ops = m := ⟨_, rfl⟩
        rw [hm] at c4 hops
        have HD2 := Lib.hid (show ∃ L2, Has o w ((w8.setCell ⟨L.addr fi, 0, none⟩ (.slice vp vn vc)).setCell ⟨rb, 4, none⟩ (.int .i64 ((m : Int) + 1))) (RfL rb (ADk.did { q with fs := q.fs.set fi ⟨(q.file fi).b ++ bs, (q.file fi).sy⟩ }) L2) from ⟨_, by rw [← hm]; exact HD.out⟩)
        have HRES := Lib.hid hend.res
        rw [hbv] at e0 e8 hrun
        rw [HBV.out] at hrun
        rw [hfv] at c0 c08
        have HRUN := Lib.hid hrun
        unfold ptr at cp cp8
        have hd : decide (fi < q.fs.length) = true := decide_eq_true hend.lt
        have hd2 : fi < q.fs.length := hend.lt
        have hdc : fi < c := by have := hend.lt; omega
        generalize q.fs.length = fl2 at *
        generalize (q.file fi).b.length = bl2 at *
        clear hLd hL hfv hF9 back9 hoth hA8 hc8 hp8 hbv hrow hBy hrun happ hF8 hD8 HD hend hm ff
        go_wp2_with fail
        go_region_law (refine step_append_run rfl (.tmp 97) (.tmp 98) 27 rfl _ _ rfl rfl HRUN.out ?_)
        all_goals (
          go_wp2_with fail
          go_ret
          rw [HRES.out] at HOK2 ⊢
          obtain ⟨L2, hD2⟩ := HD2.out
          exact ⟨rfl, rf_shut HOK2.out L2 hD2⟩)
end Go.Proofs.Ytbankfdgoolbdaa
namespace Go.Proofs.Ytbankfdgoolbdaa
open Go Go.RowKit Go.Lib
set_option linter.unusedVariables false
variable {o : List Nat} {w0 w w' w1 : World} {db : Nat} {a : ADk} {R : Part}

theorem append_sep (h : Has [] w0 w ((Dk db a).sep R)) (x : ByteArray) {v : Value} {bs : List UInt8} (hB : BytesX w0 v bs) :
    Calls Try.prog 14 #[ptr db, .string x, v] w fun e w' => e = .returned (.int .i64 (a.append x.data.toList bs).1) ∧ Has [] w0 w' ((Dk db (a.append x.data.toList bs).2).sep R) := by
  have hk := h.keeps
  obtain ⟨o', h1, hs, _, back⟩ := h.leftB
  refine (append_walk h1 x v bs fun w' k' => ?_).mono ?_
  · exact hB.kept (own := o') ((hk.mono fun _ _ h => by simp at h).tr k') fun y hy => (hs y hy).resolve_left (by simp)
  · rintro e w' ⟨rfl, h5⟩
    exact ⟨rfl, back _ _ h5⟩
theorem sync_sep (h : Has o w0 w ((Dk db a).sep R)) (x : ByteArray) : Calls Try.prog 15 #[ptr db, .string x] w fun e w' => e = .returned (.int .i64 (a.sync x.data.toList).1) ∧ Has o w0 w' ((Dk db (a.sync x.data.toList).2).sep R) := by
  obtain ⟨o', h1, _, _, back⟩ := h.left
  refine (sync_walk h1 x).mono ?_
  rintro e w' ⟨rfl, h2⟩
  exact ⟨rfl, back _ _ h2⟩
theorem rename_sep (h : Has o w0 w ((Dk db a).sep R)) (x y : ByteArray) : Calls Try.prog 31 #[ptr db, .string x, .string y] w fun e w' => e = .returned (.int .i64 (a.rename x.data.toList y.data.toList).1) ∧ Has o w0 w' ((Dk db (a.rename x.data.toList y.data.toList).2).sep R) := by
  obtain ⟨o', h1, _, _, back⟩ := h.left
  refine (rename_walk h1 x y).mono ?_
  rintro e w' ⟨rfl, h2⟩
  exact ⟨rfl, back _ _ h2⟩
theorem delete_sep (h : Has o w0 w ((Dk db a).sep R)) (x : ByteArray) : Calls Try.prog 13 #[ptr db, .string x] w fun e w' => e = .returned (.int .i64 (a.delete x.data.toList).1) ∧ Has o w0 w' ((Dk db (a.delete x.data.toList).2).sep R) := by
  obtain ⟨o', h1, _, _, back⟩ := h.left
  refine (delete_walk h1 x).mono ?_
  rintro e w' ⟨rfl, h2⟩
  exact ⟨rfl, back _ _ h2⟩
theorem syncDir_sep (h : Has o w0 w ((Dk db a).sep R))  : Calls Try.prog 16 #[ptr db] w fun e w' => e = .returned (.int .i64 (a.syncDir).1) ∧ Has o w0 w' ((Dk db (a.syncDir).2).sep R) := by
  obtain ⟨o', h1, _, _, back⟩ := h.left
  refine (syncDir_walk h1 ).mono ?_
  rintro e w' ⟨rfl, h2⟩
  exact ⟨rfl, back _ _ h2⟩

set_option maxHeartbeats 4000000 in
set_option maxRecDepth 100000 in
/-- A script on a disk. -/
theorem play_sep (h : Has [] w0 w ((Dk db a).sep R)) {sv : Value} {n m : Nat} {f : Nat → DOp} (hS : OpsIn w0 sv n f) (hm : m ≤ 1000) :
    Calls Try.prog 12 #[ptr db, sv, .int .i64 m] w fun e w' => e = .returned (.tuple #[]) ∧ Has [] w0 w' ((Dk db (playN f (min n m) a)).sep R) := by
  obtain ⟨p, c, rfl, hnc, hcm, hfit, hcells⟩ := hS
  have HF := Lib.hid hfit
  have HC := Lib.hid hcells
  have H0 := Lib.hid h
  clear h hfit hcells
  obtain ⟨k, hk⟩ : ∃ k, min n m = k := ⟨_, rfl⟩
  rw [hk]
  have hkn : k ≤ n := by omega
  have hkm : k ≤ m := by omega
  have HK := Lib.hid hk
  clear hk
  unfold ptr at *
  go_enter Try.func12, Try.ntmps12
  go_wp2_with fail
  go_loopg [6] k (fun kk iv wr => ∃ i : Nat, i ≤ k ∧ kk = k - i ∧ iv = .int .i64 i ∧ Has [] w0 wr ((Dk db (playN f i a)).sep R))
  case atStart => exact ⟨0, Nat.zero_le _, rfl, rfl, H0.out⟩
  case round =>
    obtain ⟨i, hi, hkk, rfl, hH⟩ := hrel
    have HKK := Lib.hid hkk
    have HH := Lib.hid hH
    clear hkk
    by_cases hlt : i < k
    · have d1 : ((i : Int) < (n : Int)) ↔ True := by simp; omega
      have d2 : ((i : Int) < (m : Int)) ↔ True := by simp; omega
      obtain ⟨g, off, rfl, hcs⟩ := HC.out (by omega)
      obtain ⟨c0, c1, c2, ⟨bv, c3, hb⟩, c4, c5, c6, c7⟩ := hcs i (by omega)
      have hkp := hH.keeps
      have c0 := hkp.cell c0 (by simp)
      have c1 := hkp.cell c1 (by simp)
      have c2 := hkp.cell c2 (by simp)
      have c3 := hkp.cell c3 (by simp)
      have c4 := hkp.cell c4 (by simp)
      have c5 := hkp.cell c5 (by simp)
      have c6 := hkp.cell c6 (by simp)
      have c7 := hkp.cell c7 (by simp)
      obtain ⟨bp, bc, hbv, _⟩ := hb.out
      have HB := Lib.hid hb
      subst hbv
      have hft := HF.out i (by omega)
      have HP := Lib.hid (pick_walk (f i).kind hft.kind)
      have hp9 : pickN (f i).kind 9 < 9 := by unfold pickN; split <;> omega
      obtain ⟨pk, hpk⟩ : ∃ pk, pickN (f i).kind 9 = pk := ⟨_, rfl⟩
      rw [hpk] at HP hp9
      have HA := Lib.hid (show playN f (i + 1) a = (playN f i a).actK pk (f i) by rw [← hpk]; rfl)
      generalize hq0 : (f i).kind = q0 at *
      generalize hq4 : (f i).n = q4 at *
      generalize hq5 : (f i).keep = q5 at *
      generalize hq6 : (f i).dirs = q6 at *
      generalize hq7 : (f i).tear = q7 at *
      clear hcs hb hft hpk hkp hH hq0 hq4 hq5 hq6 hq7
      have hdx : decide (i < n) = true := decide_eq_true (by omega)
      go_wp2_with fail
      refine (HP.out _).mono ?_
      rintro e w2 ⟨rfl, rfl⟩
      have hW := (HH.out).alloc (.cells #[Value.int .i64 q0, Value.string (f i).s, Value.string (f i).t, Value.slice bp (f i).b.length bc, Value.int .i64 q4, Value.int .i64 q5, Value.int .i64 q6, Value.int .i64 q7] 38)
      have H1 := Lib.hid hW
      clear hW HP
      by_cases hp0 : pk = 0
      · subst hp0
        have HQ := Lib.hid (append_sep (H1.out) (f i).s HB.out)
        unfold ptr at HQ
        clear hp9
        go_wp2_with fail
        refine HQ.out.mono ?_
        rintro e w3 ⟨rfl, h3⟩
        have H3 := Lib.hid h3
        clear h3 HQ
        go_wp2_with fail
        go_roundg (k - (i + 1))
        case measure => rw [HKK.out]; omega
        case rel => exact ⟨i + 1, by omega, rfl, by go_num, by rw [HA.out]; exact H3.out⟩
      by_cases hp2 : pk = 2
      · subst hp2
        have HQ := Lib.hid (sync_sep H1.out (f i).s)
        unfold ptr at HQ
        clear hp9
        go_wp2_with fail
        refine HQ.out.mono ?_
        rintro e w3 ⟨rfl, h3⟩
        have H3 := Lib.hid h3
        clear h3 HQ
        go_wp2_with fail
        go_roundg (k - (i + 1))
        case measure => rw [HKK.out]; omega
        case rel => exact ⟨i + 1, by omega, rfl, by go_num, by rw [HA.out]; exact H3.out⟩
      by_cases hp3 : pk = 3
      · subst hp3
        have HQ := Lib.hid (rename_sep H1.out (f i).s (f i).t)
        unfold ptr at HQ
        clear hp9
        go_wp2_with fail
        refine HQ.out.mono ?_
        rintro e w3 ⟨rfl, h3⟩
        have H3 := Lib.hid h3
        clear h3 HQ
        go_wp2_with fail
        go_roundg (k - (i + 1))
        case measure => rw [HKK.out]; omega
        case rel => exact ⟨i + 1, by omega, rfl, by go_num, by rw [HA.out]; exact H3.out⟩
      by_cases hp4 : pk = 4
      · subst hp4
        have HQ := Lib.hid (delete_sep H1.out (f i).s)
        unfold ptr at HQ
        clear hp9
        go_wp2_with fail
        refine HQ.out.mono ?_
        rintro e w3 ⟨rfl, h3⟩
        have H3 := Lib.hid h3
        clear h3 HQ
        go_wp2_with fail
        go_roundg (k - (i + 1))
        case measure => rw [HKK.out]; omega
        case rel => exact ⟨i + 1, by omega, rfl, by go_num, by rw [HA.out]; exact H3.out⟩
      by_cases hp5 : pk = 5
      · subst hp5
        have HQ := Lib.hid (syncDir_sep H1.out)
        unfold ptr at HQ
        clear hp9
        go_wp2_with fail
        refine HQ.out.mono ?_
        rintro e w3 ⟨rfl, h3⟩
        have H3 := Lib.hid h3
        clear h3 HQ
        go_wp2_with fail
        go_roundg (k - (i + 1))
        case measure => rw [HKK.out]; omega
        case rel => exact ⟨i + 1, by omega, rfl, by go_num, by rw [HA.out]; exact H3.out⟩
      have HAA := Lib.hid (HA.out.trans (show (playN f i a).actK pk (f i) = playN f i a by unfold ADk.actK; split <;> first | omega | rfl))
      have e0 : ((pk : Int) == 0) = false := by simp; omega
      have e2 : ((pk : Int) == 2) = false := by simp; omega
      have e3 : ((pk : Int) == 3) = false := by simp; omega
      have e4 : ((pk : Int) == 4) = false := by simp; omega
      have e5 : ((pk : Int) == 5) = false := by simp; omega
      go_wp2_with fail
      go_roundg (k - (i + 1))
      case measure => rw [HKK.out]; omega
      case rel => exact ⟨i + 1, by omega, rfl, by go_num, by rw [HAA.out]; exact H1.out⟩
    · obtain rfl : i = k := by omega
      have HHH := Lib.hid hH
      clear hH
      by_cases hn : i < n
      · have d1 : ((i : Int) < (n : Int)) ↔ True := by simp; omega
        have d2 : ((i : Int) < (m : Int)) ↔ False := by have := HK.out; simp; omega
        go_wp2_with fail
        go_end0
        exact ⟨rfl, HHH.out⟩
      · have d1 : ((i : Int) < (n : Int)) ↔ False := by simp; omega
        go_wp2_with fail
        go_end0
        exact ⟨rfl, HHH.out⟩
end Go.Proofs.Ytbankfdgoolbdaa
namespace Go.Proofs.Ytbankfdgoolbdaa
open Go
set_option linter.unusedVariables false
variable {a : ADk} {l : Dir}

theorem numbered_names (l : Dir) : (numbered l).map (·.1) = l.map (·.1) := numbered_map l

theorem crash_names {dirs : Int} (hl : runLog a.old (a.log.take dirs.toNat) = some l) (keep tear : Int) : (a.crash keep dirs tear).names = l.map (·.1) := by
  rw [crash_eq dirs hl]
  exact numbered_map l

theorem nm_getD {l : Dir} {i : Nat} (h : i < l.length) : (l.map (·.1))[i]? = some (nmAt l i) := by
  unfold nmAt
  rw [List.getElem?_map, List.getD_eq_getElem?_getD, List.getElem?_eq_getElem h]
  rfl

theorem left_prefix (x : AFile) {less more : Int} (h : less ≤ more) : ∃ z, (x.left more 0).b = (x.left less 0).b ++ z := by
  have h1 : ∀ k, (x.left k 0).b = x.b.take (x.sy + clamp k (x.b.length - x.sy)) := by
    intro k
    unfold AFile.left
    simp only [show ∀ n, clamp 0 n = 0 from fun n => by unfold clamp; simp, Nat.sub_zero]
    rw [List.drop_of_length_le (by rw [List.length_take]; omega)]
    simp
  rw [h1, h1]
  have hm : clamp less (x.b.length - x.sy) ≤ clamp more (x.b.length - x.sy) := by unfold clamp; omega
  refine ⟨(x.b.drop (x.sy + clamp less (x.b.length - x.sy))).take (clamp more (x.b.length - x.sy) - clamp less (x.b.length - x.sy)), ?_⟩
  rw [← List.take_add]
  congr 1
  omega

theorem left_whole (x : AFile) (hx : x.sy ≤ x.b.length) (hl : x.b.length ≤ 262144) : (x.left 262144 0).b = x.b := by
  have h : clamp 262144 (x.b.length - x.sy) = x.b.length - x.sy := by unfold clamp; omega
  have h0 : ∀ n, clamp 0 n = 0 := fun n => by unfold clamp; simp
  unfold AFile.left
  simp only [h, h0, Nat.sub_zero]
  rw [show x.sy + (x.b.length - x.sy) = x.b.length by omega, List.take_length, List.drop_length]
  simp

/-- What both disks of DiskPrefix hold under a name. -/
theorem prefix_reads {a : ADk} (hok : a.Ok) (dirs : Int) {less more : Int} (h : less ≤ more) : ∃ l : Dir, DirOk a l ∧ (a.crash less dirs 0).names = l.map (·.1) ∧ (a.crash more dirs 0).names = l.map (·.1) ∧
    ∀ j, j < l.length → ∃ x y : List UInt8, (a.crash less dirs 0).read (nmAt l j) = (x, 0) ∧ (a.crash more dirs 0).read (nmAt l j) = (y, 0) ∧ (∃ z, y = x ++ z) ∧ y.length ≤ 262144 := by
  obtain ⟨l, hl, hd⟩ := hok.prefix dirs.toNat
  refine ⟨l, hd, crash_names hl _ _, crash_names hl _ _, fun j hj => ⟨_, _, crash_read hl hd less 0 hj, crash_read hl hd more 0 hj, left_prefix _ h, ?_⟩⟩
  have h1 := a.file_ok hok (l.getD j ([], 0)).2
  have h2 := left_len (a.file (l.getD j ([], 0)).2) h1.2 more 0
  omega

theorem whole_reads {a : ADk} (hok : a.Ok) (hoff : a.off = false) : (a.crash 262144 65536 0).names = a.now.map (·.1) ∧ a.names = a.now.map (·.1) ∧
    ∀ j, j < a.now.length → ∃ x : List UInt8, a.read (nmAt a.now j) = (x, 0) ∧ (a.crash 262144 65536 0).read (nmAt a.now j) = (x, 0) ∧ x.length ≤ 262144 := by
  have hl : runLog a.old (a.log.take (65536 : Int).toNat) = some a.now := by
    rw [List.take_of_length_le (by have := hok.loglen; have := hok.ops; show a.log.length ≤ 65536; omega)]
    exact hok.log
  have hd := hok.now
  refine ⟨crash_names hl _ _, rfl, fun j hj => ?_⟩
  have h1 := a.file_ok hok (a.now.getD j ([], 0)).2
  have h2 := crash_read hl hd 262144 0 hj
  rw [left_whole _ h1.2 h1.1] at h2
  refine ⟨_, ?_, h2, h1.1⟩
  unfold ADk.read
  have hmem : a.now.getD j ([], 0) ∈ a.now := by rw [List.getD_eq_getElem?_getD, List.getElem?_eq_getElem hj]; exact List.getElem_mem hj
  rw [hoff]
  simp only [hd.nms _ hmem, nmAt]
  rw [hd.rise.find hmem]
  rfl

/-! ### DiskCuts -/
/-- The same but for the power. -/
structure Alike (a c : ADk) : Prop where
  fs : a.fs = c.fs
  now : a.now = c.now
  old : a.old = c.old
  log : a.log = c.log
  ops : a.ops = c.ops

theorem Alike.crash {a c : ADk} (h : Alike a c) (k d t : Int) : a.crash k d t = c.crash k d t := by
  obtain ⟨f1, n1, o1, l1, p1, c1, b1⟩ := a
  obtain ⟨f2, n2, o2, l2, p2, c2, b2⟩ := c
  obtain ⟨rfl, rfl, rfl, rfl, rfl⟩ := h
  rfl

/-- The power of a goes at `at`, that of c never. -/
structure CutsAt (at_ : Int) (a c : ADk) : Prop where
  like : Alike a c
  cut : a.cut = at_
  le : (a.ops : Int) ≤ at_
  off : a.off = true → (a.ops : Int) = at_

theorem CutsAt.powered {at_ : Int} {a c : ADk} (h : CutsAt at_ a c) (h0 : 0 ≤ at_) (hlt : (a.ops : Int) < at_) : a.powered = a ∧ a.off = false := by
  have ho : a.off = false := by
    cases hb : a.off with
    | false => rfl
    | true => have := h.off hb; omega
  refine ⟨?_, ho⟩
  unfold ADk.powered
  have : (a.off || (decide (0 ≤ a.cut) && decide (a.cut ≤ a.ops))) = a.off := by
    rw [ho, h.cut, show decide (at_ ≤ (a.ops : Int)) = false by simp; omega]; simp
  rw [this]

/-- The power is gone. -/
theorem CutsAt.dark {at_ : Int} {a c : ADk} (h : CutsAt at_ a c) (h0 : 0 ≤ at_) (hge : at_ ≤ (a.ops : Int)) (there : Bool) (l : List Nm) : a.powered.bad there l = 24 ∧ CutsAt at_ a.powered c ∧ a.powered.off = true := by
  have ho : a.powered.off = true := by
    unfold ADk.powered
    simp only [h.cut, decide_eq_true h0, decide_eq_true hge]
    simp
  refine ⟨?_, ⟨⟨h.like.fs, h.like.now, h.like.old, h.like.log, h.like.ops⟩, h.cut, h.le, fun _ => by have := h.le; show (a.ops : Int) = at_; omega⟩, ho⟩
  unfold ADk.bad
  rw [if_pos ho]

theorem CutsAt.after {at_ : Int} {a c : ADk} (h : CutsAt at_ a c) (h0 : 0 ≤ at_) (hge : at_ ≤ (a.ops : Int)) (o : DOp) : CutsAt at_ (a.act o) c := by
  have hd : ∀ there l, a.powered.bad there l ≠ 0 := fun there l => by rw [(h.dark h0 hge there l).1]; decide
  have hp := (h.dark h0 hge false []).2.1
  unfold ADk.act ADk.actK
  split
  · unfold ADk.append; simp only; rw [if_pos (hd _ _)]; exact hp
  · unfold ADk.sync; simp only; rw [if_pos (hd _ _)]; exact hp
  · unfold ADk.rename; simp only; rw [if_pos (hd _ _)]; exact hp
  · unfold ADk.delete; simp only; rw [if_pos (hd _ _)]; exact hp
  · unfold ADk.syncDir; simp only; rw [if_pos (hd _ _)]; exact hp
  · exact h

theorem CutsAt.ahead {at_ : Int} {a c : ADk} (h : CutsAt at_ a c) (hc : c.Lit) (h0 : 0 ≤ at_) (hlt : (a.ops : Int) < at_) (o : DOp) : CutsAt at_ (a.act o) (c.act o) := by
  obtain ⟨hpa, hoa⟩ := h.powered h0 hlt
  have hpc := hc.powered
  have hcut := h.cut
  have hoc := hc.1
  obtain ⟨f1, n1, o1, l1, p1, c1, b1⟩ := a
  obtain ⟨f2, n2, o2, l2, p2, c2, b2⟩ := c
  obtain ⟨⟨e1, e2, e3, e4, e5⟩, _, _, _⟩ := h
  simp only at e1 e2 e3 e4 e5 hcut hoa hoc hlt
  subst e1 e2 e3 e4 e5 hcut hoa hoc
  have hbad : ∀ there l, ADk.bad ⟨f1, n1, o1, l1, p1, c1, false⟩ there l = ADk.bad ⟨f1, n1, o1, l1, p1, c2, false⟩ there l := fun _ _ => rfl
  have hfile : ∀ i, ADk.file ⟨f1, n1, o1, l1, p1, c1, false⟩ i = ADk.file ⟨f1, n1, o1, l1, p1, c2, false⟩ i := fun _ => rfl
  have hle : (p1 : Int) ≤ c1 := by omega
  unfold ADk.act ADk.actK
  split
  · unfold ADk.append
    simp only [hpa, hpc, hbad, hfile]
    split
    · exact ⟨⟨rfl, rfl, rfl, rfl, rfl⟩, rfl, hle, fun e => by cases e⟩
    · split
      · split
        · exact ⟨⟨rfl, rfl, rfl, rfl, rfl⟩, rfl, hle, fun e => by cases e⟩
        · exact ⟨⟨rfl, rfl, rfl, rfl, rfl⟩, rfl, by simp only [ADk.did, ADk.change]; omega, fun e => by cases e⟩
      · split
        · exact ⟨⟨rfl, rfl, rfl, rfl, rfl⟩, rfl, hle, fun e => by cases e⟩
        · exact ⟨⟨rfl, rfl, rfl, rfl, rfl⟩, rfl, by simp only [ADk.did]; omega, fun e => by cases e⟩
  · unfold ADk.sync
    simp only [hpa, hpc, hbad]
    split
    · exact ⟨⟨rfl, rfl, rfl, rfl, rfl⟩, rfl, hle, fun e => by cases e⟩
    · split
      · exact ⟨⟨rfl, rfl, rfl, rfl, rfl⟩, rfl, hle, fun e => by cases e⟩
      · exact ⟨⟨rfl, rfl, rfl, rfl, rfl⟩, rfl, by simp only [ADk.did]; omega, fun e => by cases e⟩
  · unfold ADk.rename
    simp only [hpa, hpc, hbad]
    split
    · exact ⟨⟨rfl, rfl, rfl, rfl, rfl⟩, rfl, hle, fun e => by cases e⟩
    · exact ⟨⟨rfl, rfl, rfl, rfl, rfl⟩, rfl, by simp only [ADk.did, ADk.change]; omega, fun e => by cases e⟩
  · unfold ADk.delete
    simp only [hpa, hpc, hbad]
    split
    · exact ⟨⟨rfl, rfl, rfl, rfl, rfl⟩, rfl, hle, fun e => by cases e⟩
    · exact ⟨⟨rfl, rfl, rfl, rfl, rfl⟩, rfl, by simp only [ADk.did, ADk.change]; omega, fun e => by cases e⟩
  · unfold ADk.syncDir
    simp only [hpa, hpc, hbad]
    split
    · exact ⟨⟨rfl, rfl, rfl, rfl, rfl⟩, rfl, hle, fun e => by cases e⟩
    · exact ⟨⟨rfl, rfl, rfl, rfl, rfl⟩, rfl, by simp only [ADk.did]; omega, fun e => by cases e⟩
  · exact ⟨⟨rfl, rfl, rfl, rfl, rfl⟩, rfl, hle, fun e => by cases e⟩

/-- How far the second disk of DiskCuts is played: the operations till those that are counted come to `at`. -/
def stopsAt (at_ : Int) (f : Nat → DOp) (i : Nat) : Prop := ∀ j, j < i → ((playN f j ADk.new).ops : Int) < at_

theorem cuts_same {at_ : Int} (h0 : 0 ≤ at_) (f : Nat → DOp) : ∀ {i : Nat}, stopsAt at_ f i → CutsAt at_ (playN f i (ADk.new.cutAt at_)) (playN f i ADk.new)
  | 0, _ => ⟨⟨rfl, rfl, rfl, rfl, rfl⟩, rfl, h0, fun e => by cases e⟩
  | i + 1, h => by
    have h1 := cuts_same h0 f (i := i) fun j hj => h j (by omega)
    refine h1.ahead (playN_lit new_lit f i).1 h0 ?_ (f i)
    have := h i (by omega)
    rw [h1.like.ops]
    exact this

theorem cuts_more {at_ : Int} (h0 : 0 ≤ at_) (f : Nat → DOp) {i : Nat} (h : stopsAt at_ f i) (hge : at_ ≤ ((playN f i ADk.new).ops : Int)) : ∀ m, CutsAt at_ (playN f (i + m) (ADk.new.cutAt at_)) (playN f i ADk.new)
  | 0 => cuts_same h0 f h
  | m + 1 => by
    have h1 := cuts_more h0 f h hge m
    exact h1.after h0 (by rw [h1.like.ops]; exact hge) (f (i + m))

end Go.Proofs.Ytbankfdgoolbdaa
namespace Go.Proofs.Ytbankfdgoolbdaa
open Go Go.RowKit Go.Lib
set_option linter.unusedVariables false
variable {w0 w w' : World} {db : Nat} {a : ADk}

theorem data_arr (u : List UInt8) : (⟨u.toArray⟩ : ByteArray).data.toList = u := rfl

theorem names_in (h : Has [] w0 w (Dk db a)) {l : List Nm} {n : Nat} (hl : a.names = l) (hn : l.length = n) : Calls Try.prog 19 #[ptr db] w fun e w' => ∃ p c, e = .returned (.slice p n c) ∧ n ≤ c ∧ NamesIn w' (.slice p n c) l ∧ Kept [] w w' := by
  subst hl hn
  refine (names_walk h).mono ?_
  rintro e w' ⟨v, rfl, h'⟩
  have hn := namesIn h'
  obtain ⟨p, c, e1, hc, _⟩ := id hn
  subst e1
  exact ⟨p, c, rfl, hc, hn, h'.keeps⟩

theorem read_in (h : Has [] w0 w (Dk db a)) (u : Nm) {x : List UInt8} {e : Int} (hr : a.read u = (x, e)) : Calls Try.prog 18 #[ptr db, .string ⟨u.toArray⟩] w fun r w' => ∃ v, r = .returned (.tuple #[v, .int .i64 e]) ∧ BytesAt w' v x ∧ Kept [] w w' := by
  refine (read_walk h ⟨u.toArray⟩).mono ?_
  rw [data_arr, hr]
  rintro r w' ⟨v, rfl, h'⟩
  exact ⟨v, rfl, bytesAt_part h', h'.keeps⟩

theorem crash_in (h : Has [] w0 w (Dk db a)) (k d t : Int) : Calls Try.prog 17 #[ptr db, .agg #[.int .i64 k, .int .i64 d, .int .i64 t]] w fun e w' => ∃ d2, e = .returned (.pointer (some ⟨d2, 0, none⟩)) ∧ Has [] w w' (Dk d2 (a.crash k d t)) := by
  refine (crash_walk h k d t).mono ?_
  rintro e w' ⟨d2, rfl, h'⟩
  exact ⟨d2, rfl, h'⟩

set_option maxHeartbeats 4000000 in
set_option maxRecDepth 100000 in
theorem prefix_law {s1 : Value} {n1 : Nat} {f1 : Nat → DOp} (h1 : OpsIn w s1 n1 f1) (x y d : Int) :
    Calls Try.prog 5 #[s1, .int .i64 x, .int .i64 y, .int .i64 d] w fun e w' => e = .returned (.bool true) ∧ Kept [] w w' := by
  have H1 := Lib.hid h1
  obtain ⟨p1, c1, hs1, hn1, _⟩ := h1
  subst hs1
  go_enter Try.func5, Try.ntmps5
  go_wp2_with fail
  refine (shown_walk _).mono ?_
  rintro e w3 ⟨rfl, hk3⟩
  have HK3 := Lib.hid hk3
  clear hk3
  go_wp2_with fail
  refine (new_walk _).mono ?_
  rintro e w4 ⟨db, rfl, _, h4⟩
  have HP := Lib.hid (play_walk (w0 := w) (m := 100) (h4.from HK3.out) H1.out (by omega))
  have hok1 := playN_ok ADk.new_ok f1 (min n1 100)
  have hl1 := playN_lit new_lit f1 (min n1 100)
  generalize playN f1 (min n1 100) ADk.new = q at *
  have HOK := Lib.hid hok1
  have HLT := Lib.hid hl1.1
  clear h4 hok1 hl1
  unfold ptr at HP ⊢
  go_wp2_with fail
  refine HP.out.mono ?_
  rintro e w5 ⟨rfl, h5⟩
  have H5 := Lib.hid h5
  clear HP h5
  obtain ⟨lo, hlo⟩ : ∃ lo, (if x > y then y else x) = lo := ⟨_, rfl⟩
  obtain ⟨hi, hhi⟩ : ∃ hi, (if x > y then x else y) = hi := ⟨_, rfl⟩
  have HLE := Lib.hid (show lo ≤ hi by rw [← hlo, ← hhi]; split <;> omega)
  have HLO := Lib.hid hlo
  have HHI := Lib.hid hhi
  clear hlo hhi
  go_upto_if 35 with fail
  go_cut [1, 2] from 33 (fun s1 s2 wx => s1 = .int .i64 lo ∧ s2 = .int .i64 hi ∧ wx = w5)
  case first =>
    by_cases hxy : x > y
    · have e1 := HLO.out
      have e2 := HHI.out
      rw [if_pos hxy] at e1 e2
      have d1 : (y < x) ↔ True := by simp; omega
      subst e1 e2
      go_wp2_with fail
      go_meet
      exact ⟨rfl, rfl, rfl⟩
    · have e1 := HLO.out
      have e2 := HHI.out
      rw [if_neg hxy] at e1 e2
      have d1 : (y < x) ↔ False := by simp; omega
      subst e1 e2
      go_wp2_with fail
      go_meet
      exact ⟨rfl, rfl, rfl⟩
  case rest =>
  obtain ⟨rfl, rfl, rfl⟩ := hcut
  obtain ⟨l, hdl, hnA, hnB, hread⟩ := prefix_reads HOK.out d HLE.out
  obtain ⟨hnW, hnQ, hreadW⟩ := whole_reads HOK.out HLT.out.1
  have HRD := Lib.hid hread
  have HRW := Lib.hid hreadW
  have HDL := Lib.hid hdl
  have HNA := Lib.hid (And.intro hnA (And.intro hnB (And.intro hnW hnQ)))
  have hll : l.length ≤ 64 := hdl.len
  have hlq : q.now.length ≤ 64 := HOK.out.now.len
  obtain ⟨n, hN⟩ : ∃ n, l.length = n := ⟨_, rfl⟩
  have hN2 : (l.map (·.1)).length = n := by rw [List.length_map]; exact hN
  rw [hN] at hll
  have HNN := Lib.hid hN
  have HN2 := Lib.hid hN2
  clear hdl hnA hnB hread hnW hnQ hreadW hN hN2
  -- the two crashes
  have HC := Lib.hid (crash_in H5.out lo d 0)
  unfold ptr at HC
  go_wp2_with fail
  refine HC.out.mono ?_
  rintro e w6 ⟨da, rfl, h6⟩
  have hD6 := H5.out.quiet h6.keeps
  have HC2 := Lib.hid (crash_in hD6 hi d 0)
  have HK5 := Lib.hid H5.out.keeps
  have HD6 := Lib.hid hD6
  have HA6 := Lib.hid (h6.from HK5.out)
  clear HC h6 hD6
  unfold ptr at HC2
  go_wp2_with fail
  refine HC2.out.mono ?_
  rintro e w7 ⟨dB, rfl, h7⟩
  have HK7 := Lib.hid (HD6.out.quiet h7.keeps).keeps
  have HD7 := Lib.hid (HD6.out.quiet h7.keeps)
  have HA7 := Lib.hid (HA6.out.quiet h7.keeps)
  have HB7 := Lib.hid (h7.from HD6.out.keeps)
  clear h7 HC2 HD6 HA6
  -- their names
  have HN := Lib.hid (names_in HA7.out HNA.out.1 HN2.out)
  unfold ptr at HN
  go_wp2_with fail
  refine HN.out.mono ?_
  rintro e w8 ⟨pa, ca, rfl, hca, hn8, k8⟩
  have HB8 := Lib.hid (HB7.out.quiet k8)
  have HK78 := Lib.hid k8
  have HN8 := Lib.hid hn8
  have HNB := Lib.hid (names_in HB8.out HNA.out.2.1 HN2.out)
  unfold ptr at HNB
  clear HN hn8 k8
  go_wp2_with fail
  refine HNB.out.mono ?_
  rintro e w9 ⟨pb, cb, rfl, hcb, hn9, k9⟩
  have hna9 := HN8.out.kept k9 (by simp)
  have HS := Lib.hid (same_walk hna9 hn9 (by rw [HN2.out]; omega))
  have HK79 := Lib.hid (HK78.out.tr k9)
  have HN9 := Lib.hid hna9
  clear HNB hn9 k9 hna9 HK78 HN8 HB8
  go_wp2_with fail
  refine HS.out.mono ?_
  rintro e w10 ⟨rfl, k10⟩
  have HN10 := Lib.hid (HN9.out.kept k10 (by simp))
  have HK10 := Lib.hid (HK79.out.tr k10)
  have HD10 := Lib.hid (HD7.out.quiet HK10.out)
  have HA10 := Lib.hid (HA7.out.quiet HK10.out)
  have HB10 := Lib.hid (HB7.out.quiet HK10.out)
  clear HS k10 HN9 HK79 HK10 HD7 HA7 HB7
  go_wp2_with fail
  go_loopg [15] n (fun kk iv wr => ∃ i : Nat, i ≤ n ∧ kk = n - i ∧ iv = .int .i64 i ∧ Kept [] w10 wr)
  case atStart => exact ⟨0, Nat.zero_le _, rfl, rfl, Kept.refl _ _⟩
  case round =>
    obtain ⟨i, hi', hkk, rfl, hK⟩ := hrel
    have HKK := Lib.hid hkk
    have HK := Lib.hid hK
    clear hkk
    by_cases hlt : i < n
    · have d1 : ((i : Int) < (n : Int)) ↔ True := by simp; omega
      have hil : i < l.length := by have := HNN.out; omega
      obtain ⟨xs, ys, hx, hy, hz, hyl⟩ := HRD.out i hil
      have hNr := HN10.out.kept hK (by simp)
      obtain ⟨_, _, e9, _, hc9⟩ := hNr
      obtain ⟨g, e8, _, c8⟩ := hc9 i _ (nm_getD hil)
      have e10 : pa = some ⟨g, 0, none⟩ := by injection e9 with e11 _ _; rw [e11]; exact e8
      subst e10
      have HX := Lib.hid (read_in (HA10.out.quiet hK) (nmAt l i) hx)
      unfold ptr at HX
      have hd : decide (i < n) = true := decide_eq_true hlt
      have hda : i < ca := by omega
      have HC8 := Lib.hid c8
      clear hc9 hK e9 e8 hx
      go_wp2_with fail
      refine HX.out.mono ?_
      rintro e w11 ⟨v1, rfl, hb1, k11⟩
      have HK11 := Lib.hid (HK.out.tr k11)
      have c8 := k11.cell HC8.out (by simp)
      have HY := Lib.hid (read_in (HB10.out.quiet HK11.out) (nmAt l i) hy)
      unfold ptr at HY
      have HB1 := Lib.hid hb1
      clear hb1 k11 HX hy
      go_wp2_with fail
      refine HY.out.mono ?_
      rintro e w12 ⟨v2, rfl, hb2, k12⟩
      have t1 := conv_strX (HB1.out.x.kept k12 (by simp))
      have t2 := conv_str hb2
      have HBG := Lib.hid (begins_walk hz hyl w12)
      have HK12 := Lib.hid (HK11.out.tr k12)
      clear hb2 k12 HY hz hyl
      go_wp2_with fail
      refine HBG.out.mono ?_
      rintro e w13 ⟨rfl, rfl⟩
      go_wp2_with fail
      go_roundg (n - (i + 1))
      case measure => rw [HKK.out]; omega
      case rel => exact ⟨i + 1, by omega, rfl, by go_num, HK12.out⟩
    · have d1 : ((i : Int) < (n : Int)) ↔ False := by simp; omega
      obtain rfl : i = n := by omega
      have HDr := Lib.hid (HD10.out.quiet hK)
      have HAr := Lib.hid (HA10.out.quiet hK)
      clear hK HD10 HA10 HB10 HN10 HRD
      have HC := Lib.hid (crash_in HDr.out 262144 65536 0)
      unfold ptr at HC
      go_wp2_with fail
      refine HC.out.mono ?_
      rintro e w11 ⟨dW, rfl, h11⟩
      have HD11 := Lib.hid (HDr.out.quiet h11.keeps)
      have HA11 := Lib.hid (HAr.out.quiet h11.keeps)
      have HW11 := Lib.hid (h11.from HDr.out.keeps)
      clear h11 HC HDr HAr
      obtain ⟨m, hM⟩ : ∃ m, q.now.length = m := ⟨_, rfl⟩
      have hM2 : (q.now.map (·.1)).length = m := by rw [List.length_map]; exact hM
      rw [hM] at hlq
      have HMM := Lib.hid hM
      have HM2 := Lib.hid hM2
      clear hM hM2
      have HN := Lib.hid (names_in HD11.out HNA.out.2.2.2 HM2.out)
      unfold ptr at HN
      go_wp2_with fail
      refine HN.out.mono ?_
      rintro e w12 ⟨pc, cc, rfl, hcc, hn12, k12⟩
      have HK12 := Lib.hid k12
      have HN12 := Lib.hid hn12
      have HNB := Lib.hid (names_in (HW11.out.quiet k12) HNA.out.2.2.1 HM2.out)
      unfold ptr at HNB
      clear HN hn12 k12
      go_wp2_with fail
      refine HNB.out.mono ?_
      rintro e w13 ⟨pd, cd, rfl, hcd, hn13, k13⟩
      have hna13 := HN12.out.kept k13 (by simp)
      have HS := Lib.hid (same_walk hna13 hn13 (by rw [HM2.out]; omega))
      have HK13 := Lib.hid (HK12.out.tr k13)
      have HN13 := Lib.hid hna13
      clear HNB hn13 k13 hna13 HK12 HN12
      go_wp2_with fail
      refine HS.out.mono ?_
      rintro e w14 ⟨rfl, k14⟩
      have HN14 := Lib.hid (HN13.out.kept k14 (by simp))
      have HK14 := Lib.hid (HK13.out.tr k14)
      have HD14 := Lib.hid (HD11.out.quiet HK14.out)
      have HA14 := Lib.hid (HA11.out.quiet HK14.out)
      have HW14 := Lib.hid (HW11.out.quiet HK14.out)
      clear HS k14 HN13 HK13 HK14 HD11 HA11 HW11
      clear hi' HK hlt d1
      go_wp2_with fail
      go_loopg [22, 23] m (fun kk bv iv wq => ∃ i : Nat, i ≤ m ∧ kk = m - i ∧ bv = .bool true ∧ iv = .int .i64 i ∧ Kept [] w14 wq)
      case atStart => exact ⟨0, Nat.zero_le _, rfl, rfl, rfl, Kept.refl _ _⟩
      case round =>
        obtain ⟨j, hj', hkk, rfl, rfl, hK⟩ := hrel
        have HKJ := Lib.hid hkk
        have HK := Lib.hid hK
        clear hkk
        by_cases hlt : j < m
        · have d1 : ((j : Int) < (m : Int)) ↔ True := by simp; omega
          have hil : j < q.now.length := by have := HMM.out; omega
          obtain ⟨xs, hx, hy, hyl⟩ := HRW.out j hil
          have hNr := HN14.out.kept hK (by simp)
          obtain ⟨_, _, e9, _, hc9⟩ := hNr
          obtain ⟨g, e8, _, c8⟩ := hc9 j _ (nm_getD hil)
          have e10 : pc = some ⟨g, 0, none⟩ := by injection e9 with e11 _ _; rw [e11]; exact e8
          subst e10
          have HX := Lib.hid (read_in (HD14.out.quiet hK) (nmAt q.now j) hx)
          unfold ptr at HX
          have hd : decide (j < m) = true := decide_eq_true hlt
          have hda : j < cc := by omega
          have HC8 := Lib.hid c8
          clear hc9 hK e9 e8 hx hyl
          go_wp2_with fail
          refine HX.out.mono ?_
          rintro e w15 ⟨v1, rfl, hb1, k15⟩
          have HK15 := Lib.hid (HK.out.tr k15)
          have c8 := k15.cell HC8.out (by simp)
          have HY := Lib.hid (read_in (HW14.out.quiet HK15.out) (nmAt q.now j) hy)
          unfold ptr at HY
          have HB1 := Lib.hid hb1
          clear hb1 k15 HX hy
          go_wp2_with fail
          refine HY.out.mono ?_
          rintro e w16 ⟨v2, rfl, hb2, k16⟩
          have t1 := conv_strX (HB1.out.x.kept k16 (by simp))
          have t2 := conv_str hb2
          have HK16 := Lib.hid (HK15.out.tr k16)
          clear hb2 k16 HY
          go_wp2_with fail
          go_roundg (m - (j + 1))
          case measure => rw [HKJ.out]; omega
          case rel => exact ⟨j + 1, by omega, rfl, rfl, by go_num, HK16.out⟩
        · have d1 : ((j : Int) < (m : Int)) ↔ False := by simp; omega
          obtain rfl : j = m := by omega
          have HO := Lib.hid ((ops_walk (HA14.out.quiet hK)).mono (R' := fun e w' => e = .returned (.int .i64 0) ∧ Kept [] w w') (by
            rintro e w' ⟨rfl, k'⟩
            exact ⟨rfl, (HA14.out.quiet hK).keeps.tr k'⟩))
          unfold ptr at HO
          clear hK
          go_wp2_with fail
          refine HO.out.mono ?_
          rintro e w17 ⟨rfl, k17⟩
          have HK17 := Lib.hid k17
          clear k17
          go_wp2_with fail
          go_ret
          exact ⟨rfl, HK17.out⟩
end Go.Proofs.Ytbankfdgoolbdaa
