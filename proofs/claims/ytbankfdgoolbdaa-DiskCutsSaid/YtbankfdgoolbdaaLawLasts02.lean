/- DiskLasts walked. -/
import Derived.Test.YtbankfdgoolbdaaDkWalks
import Derived.Deep.RegionHeld3
namespace Go.Proofs.Ytbankfdgoolbdaa
open Go Go.RowKit Go.Lib
set_option linter.unusedVariables false
variable {w0 w w' : World} {db : Nat} {a : ADk}

def nmLast : ByteArray := ⟨#[108, 97, 115, 116, 105, 110, 103]⟩
theorem nmLast_ok : isNm nmLast.data.toList = true := by decide

theorem not_last {x : ByteArray} (h : x ≠ nmLast) : ¬ x.toList = [108, 97, 115, 116, 105, 110, 103] := fun e => h (Go.WideShapes.bytes_inj (by rw [← ByteArray.toList_eq, e]; rfl))

/-- The script's part from one place on. -/
theorem OpsIn.one {sv : Value} {n : Nat} {f : Nat → DOp} (h : OpsIn w sv n f) {i : Nat} (hi : i < n) : ∀ p c, sv = .slice p n c → ∃ b off, p = some ⟨b, off, none⟩ ∧ OpCells w b (off + i * 8) (f i) ∧ OpsIn w (.slice (some ⟨b, off + i * 8, none⟩) 1 (c - i)) 1 (fun k => f (i + k)) := by
  intro p c e
  obtain ⟨p', c', rfl, h1, h2, h3, h4⟩ := h
  obtain ⟨rfl, rfl⟩ : p' = p ∧ c' = c := by injection e with e1 _ e2; exact ⟨e1, e2⟩
  obtain ⟨b, off, rfl, h5⟩ := h4 (by omega)
  refine ⟨b, off, rfl, h5 i hi, _, _, rfl, by omega, by omega, fun k hk => h3 _ (by omega), fun _ => ⟨b, off + i * 8, rfl, fun k hk => ?_⟩⟩
  have := h5 (i + k) (by omega)
  rw [Nat.add_mul, ← Nat.add_assoc] at this
  exact this

set_option maxHeartbeats 4000000 in
set_option maxRecDepth 100000 in
theorem lasts_law {s1 s2 bv : Value} {n1 n2 : Nat} {f1 f2 : Nat → DOp} {bs : List UInt8} (h1 : OpsIn w s1 n1 f1) (h2 : OpsIn w s2 n2 f2) (hb : BytesX w bv bs) (k d t : Int) :
    Calls Try.prog 4 #[s1, bv, s2, FateV k d t] w fun e w' => e = .returned (.bool true) ∧ Kept [] w w' := by
  have HB := Lib.hid hb
  have H1 := Lib.hid h1
  have H2 := Lib.hid h2
  obtain ⟨p1, c1, hs1, hn1, _⟩ := h1
  obtain ⟨p2, c2, hs2, hn2, hm2, hft2, _⟩ := h2
  obtain ⟨pb, cb, hsb, _⟩ := hb.out
  subst hs1 hs2 hsb
  have HFT := Lib.hid hft2
  clear hb hft2
  have hk0 : Kept [] w (w.alloc (.cells #[.int .i64 k, .int .i64 d, .int .i64 t] 29)) := (Kept.refl _ _).alloc _
  have c0 : (w.alloc (.cells #[.int .i64 k, .int .i64 d, .int .i64 t] 29)).cell? ⟨w.heap.size, 0, none⟩ = some (.int .i64 k) := by rw [World.cell?_alloc_mark]; rfl
  have c1 : (w.alloc (.cells #[.int .i64 k, .int .i64 d, .int .i64 t] 29)).cell? ⟨w.heap.size, 1, none⟩ = some (.int .i64 d) := by rw [World.cell?_alloc_mark]; rfl
  have c2 : (w.alloc (.cells #[.int .i64 k, .int .i64 d, .int .i64 t] 29)).cell? ⟨w.heap.size, 2, none⟩ = some (.int .i64 t) := by rw [World.cell?_alloc_mark]; rfl
  have HH1 := Lib.hid (H1.out.kept hk0)
  have HH2 := Lib.hid (H2.out.kept hk0)
  have HHB := Lib.hid (HB.out.kept hk0 (by simp))
  have HK0 := Lib.hid hk0
  have HFC := Lib.hid (And.intro c0 (And.intro c1 c2))
  clear hk0 c0 c1 c2 H1 H2 HB
  unfold FateV
  go_enter Try.func4, Try.ntmps4
  go_wp2_with fail
  generalize (w.alloc (.cells #[.int .i64 k, .int .i64 d, .int .i64 t] 29)) = W at *
  generalize w.heap.size = fb at *
  refine (shown_walk _).mono ?_
  rintro e w3 ⟨rfl, hk3⟩
  have HK3 := Lib.hid hk3
  clear hk3
  go_wp2_with fail
  refine (new_walk _).mono ?_
  rintro e w4 ⟨db, rfl, _, h4⟩
  have HP := Lib.hid (play_walk (w0 := W) (m := 100) (h4.from HK3.out) HH1.out (by omega))
  have hok1 := playN_ok ADk.new_ok f1 (min n1 100)
  have hl1 := playN_lit new_lit f1 (min n1 100)
  generalize playN f1 (min n1 100) ADk.new = q1 at *
  have hops1 : q1.ops ≤ 1000 := by have := hl1.2; have : ADk.new.ops = 0 := rfl; omega
  have HB := Lib.hid (last_begins hok1 hl1.1 hops1 nmLast.data.toList nmLast_ok bs)
  have HOK1 := Lib.hid hok1
  clear h4 hok1 hl1 hops1
  unfold ptr at HP ⊢
  go_wp2_with fail
  refine HP.out.mono ?_
  rintro e w5 ⟨rfl, h5⟩
  have HD := Lib.hid (delete_in h5 nmLast)
  clear HP h5
  unfold ptr nmLast at HD
  go_wp2_with fail
  refine HD.out.mono ?_
  rintro e w6 ⟨rfl, h6⟩
  have HA := Lib.hid (append_out h6 nmLast HHB.out)
  clear HD h6
  unfold ptr at HA
  change Hid (Calls _ _ _ _ fun e w' => e = .returned (.int .i64 (q1.lastA nmLast.data.toList bs).1) ∧ Has [] W w' (Dk db (q1.lastA nmLast.data.toList bs).2)) at HA
  have hshow : ∀ (m : Int) (q : ADk) (x : ByteArray), (m, q) = (m, q) := fun _ _ _ => rfl
  rcases HB.out with hb23 | ⟨ha0, hb0, hc0, hlit, j, hlast⟩
  · rw [hb23] at HA
    clear HB hb23 hshow
    generalize (q1.delete _).1 = qd at *
    unfold nmLast at HA
    go_wp2_with fail
    refine HA.out.mono ?_
    rintro e w7 ⟨rfl, h7⟩
    have HE := Lib.hid (HK0.out.tr h7.keeps)
    clear h7 HA
    go_wp2_with fail
    go_ret
    exact ⟨rfl, HE.out⟩
  · rw [ha0] at HA
    have HHB0 := Lib.hid hb0
    have HHC0 := Lib.hid hc0
    have hokA : (q1.lastA nmLast.data.toList bs).2.Ok := ADk.append_ok (q1.delete_ok HOK1.out _) _ _
    have hokB : (q1.lastB nmLast.data.toList bs).2.Ok := ADk.sync_ok hokA _
    have hokC : (q1.lastC nmLast.data.toList bs).2.Ok := ADk.syncDir_ok hokB
    have HL := Lib.hid (And.intro hokC (And.intro hlit hlast))
    clear HB ha0 hb0 hc0 hlit hlast hokA hokB hokC hshow
    generalize (q1.delete _).1 = qd at *
    unfold nmLast at HA
    go_wp2_with fail
    refine HA.out.mono ?_
    rintro e w7 ⟨rfl, h7⟩
    have HS := Lib.hid (sync_in h7 nmLast)
    change Hid (Calls _ _ _ _ fun e w' => e = .returned (.int .i64 (q1.lastB nmLast.data.toList bs).1) ∧ Has [] W w' (Dk db (q1.lastB nmLast.data.toList bs).2)) at HS
    rw [HHB0.out] at HS
    clear h7 HA
    unfold ptr nmLast at HS
    go_wp2_with fail
    refine HS.out.mono ?_
    rintro e w8 ⟨rfl, h8⟩
    have HS2 := Lib.hid (syncDir_in h8)
    change Hid (Calls _ _ _ _ fun e w' => e = .returned (.int .i64 (q1.lastC nmLast.data.toList bs).1) ∧ Has [] W w' (Dk db (q1.lastC nmLast.data.toList bs).2)) at HS2
    rw [HHC0.out] at HS2
    clear h8 HS HHB0 HHC0
    unfold ptr at HS2
    go_wp2_with fail
    refine HS2.out.mono ?_
    rintro e w9 ⟨rfl, h9⟩
    have H9 := Lib.hid h9
    clear h9 HS2
    obtain ⟨kk, hkk⟩ : ∃ kk, min n2 100 = kk := ⟨_, rfl⟩
    have hkn : kk ≤ n2 := by omega
    have hkm : kk ≤ 100 := by omega
    have HKK := Lib.hid hkk
    clear hkk
    generalize (q1.lastC nmLast.data.toList bs).2 = qc at *
    go_wp2_with fail
    go_loopg [15] kk (fun g iv wr => ∃ (i : Nat) (q : ADk), i ≤ kk ∧ g = kk - i ∧ iv = .int .i64 i ∧ (q.Ok ∧ q.Lit ∧ Lasting q nmLast.data.toList bs j) ∧ Has [] W wr (Dk db q))
    case atStart => exact ⟨0, qc, Nat.zero_le _, rfl, rfl, HL.out, H9.out⟩
    case round =>
      obtain ⟨i, q, hi, hg, rfl, hq, hW⟩ := hrel
      have HG := Lib.hid hg
      have HQ := Lib.hid hq
      clear hg hq H9
      by_cases hlt : i < kk
      · have d1 : ((i : Int) < (n2 : Int)) ↔ True := by simp; omega
        have d2 : ((i : Int) < 100) ↔ True := by simp; omega
        have hin : i < n2 := by omega
        obtain ⟨b, off, rfl, hoc, hS1⟩ := HH2.out.one hin _ _ rfl
        obtain ⟨_, e1, e2, _⟩ := hoc.kept hW.keeps
        have HS := Lib.hid hS1
        have hdx : decide (i < n2) = true := decide_eq_true hin
        have hcc : i < c2 := by omega
        have HW := Lib.hid hW
        have H1N := Lib.hid (show (fun k => f2 (i + k)) 0 = f2 i from rfl)
        clear hoc hS1 hW
        by_cases hs : (f2 i).s = nmLast
        · have t1 : ((f2 i).s.toList = [108, 97, 115, 116, 105, 110, 103]) ↔ True := by rw [hs]; simp [nmLast, ByteArray.toList_eq]
          have t1b : (((f2 i).s.toList == [108, 97, 115, 116, 105, 110, 103]) = true) := by simpa using t1.2 trivial
          have e3 := e1
          clear hs
          go_wp2_with fail
          go_roundg (kk - (i + 1))
          case measure => rw [HG.out]; omega
          case rel => exact ⟨i + 1, q, by omega, rfl, by go_num, HQ.out, HW.out⟩
        · have t1 : ((f2 i).s.toList = [108, 97, 115, 116, 105, 110, 103]) ↔ False := by simpa using not_last hs
          have t1b : (((f2 i).s.toList == [108, 97, 115, 116, 105, 110, 103]) = false) := by simpa using t1.1
          by_cases ht : (f2 i).t = nmLast
          · have t2 : ((f2 i).t.toList = [108, 97, 115, 116, 105, 110, 103]) ↔ True := by rw [ht]; simp [nmLast, ByteArray.toList_eq]
            have t2b : (((f2 i).t.toList == [108, 97, 115, 116, 105, 110, 103]) = true) := by simpa using t2.2 trivial
            clear hs ht
            go_wp2_with fail
            go_roundg (kk - (i + 1))
            case measure => rw [HG.out]; omega
            case rel => exact ⟨i + 1, q, by omega, rfl, by go_num, HQ.out, HW.out⟩
          · have t2 : ((f2 i).t.toList = [108, 97, 115, 116, 105, 110, 103]) ↔ False := by simpa using not_last ht
            have t2b : (((f2 i).t.toList == [108, 97, 115, 116, 105, 110, 103]) = false) := by simpa using t2.1
            have hact := HQ.out.2.2.act HQ.out.1 HQ.out.2.1 (f2 i) (fun e => hs (Go.WideShapes.bytes_inj e)) (fun e => ht (Go.WideShapes.bytes_inj e))
            have HAC := Lib.hid (And.intro (ADk.act_ok HQ.out.1 (f2 i)) (And.intro (ADk.act_lit HQ.out.2.1 (f2 i)).1 hact))
            have HP := Lib.hid ((play_walk (m := 1) HW.out HS.out (by omega)).mono (R' := fun e w' => e = .returned (.tuple #[]) ∧ Has [] W w' (Dk db (q.act (f2 i)))) (by
              rintro e w' ⟨rfl, h'⟩
              exact ⟨rfl, h'⟩))
            clear hs ht hact
            unfold ptr at HP
            go_wp2_with fail
            refine HP.out.mono ?_
            rintro e w10 ⟨rfl, h10⟩
            have H10 := Lib.hid h10
            clear h10 HP
            go_wp2_with fail
            go_roundg (kk - (i + 1))
            case measure => rw [HG.out]; omega
            case rel => exact ⟨i + 1, _, by omega, rfl, by go_num, HAC.out, H10.out⟩
      · obtain rfl : i = kk := by omega
        have hc := (crash_walk hW k d t).mono (R' := fun e w' => ∃ db2, e = .returned (ptr db2) ∧ Has [] W w' (Dk db2 (q.crash k d t))) (by
          rintro e w' ⟨db2, rfl, h'⟩
          exact ⟨db2, rfl, h'.from hW.keeps⟩)
        have HC := Lib.hid hc
        have c0 : wr.cell? ⟨fb, 0, none⟩ = _ := hW.keeps.cell HFC.out.1 (by simp)
        have c1' : wr.cell? ⟨fb, 1, none⟩ = _ := hW.keeps.cell HFC.out.2.1 (by simp)
        have c2' : wr.cell? ⟨fb, 2, none⟩ = _ := hW.keeps.cell HFC.out.2.2 (by simp)
        have HR := Lib.hid (HQ.out.2.2.crash HQ.out.1 k d t)
        clear hc hW
        unfold ptr at HC
        by_cases hn : i < n2
        · have d1 : ((i : Int) < (n2 : Int)) ↔ True := by simp; omega
          have d2 : ((i : Int) < 100) ↔ False := by have := HKK.out; simp; omega
          go_wp2_with fail
          refine HC.out.mono ?_
          rintro e w12 ⟨db2, rfl, h12⟩
          have HRD := Lib.hid (read_walk h12 nmLast)
          rw [HR.out] at HRD
          have HK12 := Lib.hid h12.keeps
          clear h12 HC
          unfold ptr nmLast at HRD
          go_wp2_with fail
          refine HRD.out.mono ?_
          rintro e w13 ⟨v, rfl, h13⟩
          have HK13 := Lib.hid (HK12.out.tr h13.keeps)
          have e1 := conv_str (bytesAt_part h13)
          have e2 := conv_strX (HHB.out.kept HK13.out (by simp))
          clear h13 HRD
          go_wp2_with fail
          go_ret
          exact ⟨rfl, HK0.out.tr HK13.out⟩
        · have d1 : ((i : Int) < (n2 : Int)) ↔ False := by simp; omega
          go_wp2_with fail
          refine HC.out.mono ?_
          rintro e w12 ⟨db2, rfl, h12⟩
          have HRD := Lib.hid (read_walk h12 nmLast)
          rw [HR.out] at HRD
          have HK12 := Lib.hid h12.keeps
          clear h12 HC
          unfold ptr nmLast at HRD
          go_wp2_with fail
          refine HRD.out.mono ?_
          rintro e w13 ⟨v, rfl, h13⟩
          have HK13 := Lib.hid (HK12.out.tr h13.keeps)
          have e1 := conv_str (bytesAt_part h13)
          have e2 := conv_strX (HHB.out.kept HK13.out (by simp))
          clear h13 HRD
          go_wp2_with fail
          go_ret
          exact ⟨rfl, HK0.out.tr HK13.out⟩
end Go.Proofs.Ytbankfdgoolbdaa
