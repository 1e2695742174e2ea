/- What a nil disk answers.
DiskLasts walked.
DiskPlays walked.
How long the bytes of a script's operations are: the reach of what is read. Nothing is claimed of a program here. -/
import Derived.Test.YtbankfdgoolbdaaMPlays5
import Derived.Test.YtbankfdgoolbdaaMPlays7
import Derived.Deep.RegionHeld3
import Derived.Test.YtbankfdgoolbdaaMPlays11
import Derived.Test.YtbankfdgoolbdaaMPlays6
import Derived.SizedLaws
namespace Go.Proofs.Ytbankfdgoolbdaa
open Go Go.RowKit Go.Lib
set_option linter.unusedVariables false

theorem append_nil (w : World) (x : ByteArray) (p : Option Addr) (n c : Nat) : Calls Try.prog 14 #[.pointer none, .string x, .slice p n c] w fun e w' => e = .returned (.int .i64 1) ∧ Kept [] w w' := by
  have HR := Lib.hid (fun W sv => refused_nil W false sv)
  go_enter Try.func14, Try.ntmps14
  go_wp2_with fail
  refine (HR.out _ _).mono ?_
  rintro e w2 ⟨rfl, k2⟩
  have K2 := Lib.hid (show Kept [] w w2 from (((Kept.refl [] w).alloc _).alloc _).tr k2)
  clear k2
  go_wp2_with fail
  go_ret
  exact ⟨rfl, K2.out⟩
theorem sync_nil (w : World) (x : ByteArray) : Calls Try.prog 15 #[.pointer none, .string x] w fun e w' => e = .returned (.int .i64 1) ∧ Kept [] w w' := by
  have HR := Lib.hid (fun W sv => refused_nil W true sv)
  go_enter Try.func15, Try.ntmps15
  go_wp2_with fail
  refine (HR.out _ _).mono ?_
  rintro e w2 ⟨rfl, k2⟩
  have K2 := Lib.hid (show Kept [] w w2 from ((Kept.refl [] w).alloc _).tr k2)
  clear k2
  go_wp2_with fail
  go_ret
  exact ⟨rfl, K2.out⟩

theorem rename_nil (w : World) (x y : ByteArray) : Calls Try.prog 31 #[.pointer none, .string x, .string y] w fun e w' => e = .returned (.int .i64 1) ∧ Kept [] w w' := by
  have HR := Lib.hid (fun W sv => refused_nil W true sv)
  go_enter Try.func31, Try.ntmps31
  go_wp2_with fail
  refine (HR.out _ _).mono ?_
  rintro e w2 ⟨rfl, k2⟩
  have K2 := Lib.hid (show Kept [] w w2 from ((((Kept.refl [] w).alloc _).alloc _).alloc _).tr k2)
  clear k2
  go_wp2_with fail
  go_ret
  exact ⟨rfl, K2.out⟩

theorem delete_nil (w : World) (x : ByteArray) : Calls Try.prog 13 #[.pointer none, .string x] w fun e w' => e = .returned (.int .i64 1) ∧ Kept [] w w' := by
  have HR := Lib.hid (fun W sv => refused_nil W true sv)
  go_enter Try.func13, Try.ntmps13
  go_wp2_with fail
  refine (HR.out _ _).mono ?_
  rintro e w2 ⟨rfl, k2⟩
  have K2 := Lib.hid (show Kept [] w w2 from (((Kept.refl [] w).alloc _).alloc _).tr k2)
  clear k2
  go_wp2_with fail
  go_ret
  exact ⟨rfl, K2.out⟩

theorem syncDir_nil (w : World) : Calls Try.prog 16 #[.pointer none] w fun e w' => e = .returned (.int .i64 1) ∧ Kept [] w w' := by
  have HR := Lib.hid (fun W sv => refused_nil W false sv)
  go_enter Try.func16, Try.ntmps16
  go_wp2_with fail
  refine (HR.out _ _).mono ?_
  rintro e w2 ⟨rfl, k2⟩
  have K2 := Lib.hid (show Kept [] w w2 from (Kept.refl [] w).tr k2)
  clear k2
  go_wp2_with fail
  go_ret
  exact ⟨rfl, K2.out⟩

theorem read_nil (w : World) (x : ByteArray) : Calls Try.prog 18 #[.pointer none, .string x] w fun e w' => e = .returned (.tuple #[.slice none 0 0, .int .i64 1]) ∧ Kept [] w w' := by
  go_enter Try.func18, Try.ntmps18
  go_wp2_with fail
  go_ret2
  exact ⟨rfl, Kept.refl _ _⟩

theorem poke_nil (w : World) (x : ByteArray) (k : Int) (c : Int) : Calls Try.prog 47 #[.pointer none, .string x, .int .i64 k, .int .u8 c] w fun e w' => e = .returned (.int .i64 1) ∧ Kept [] w w' := by
  go_enter Try.func47, Try.ntmps47
  go_wp2_with fail
  go_ret
  exact ⟨rfl, Kept.refl _ _⟩

theorem crash_nil (w : World) (k d t : Int) : Calls Try.prog 17 #[.pointer none, .agg #[.int .i64 k, .int .i64 d, .int .i64 t]] w fun e w' => e = .returned (.pointer none) ∧ Kept [] w w' := by
  go_enter Try.func17, Try.ntmps17
  go_wp2_with fail
  go_ret
  exact ⟨rfl, (Kept.refl _ _).alloc _⟩

set_option maxHeartbeats 4000000 in
set_option maxRecDepth 100000 in
theorem nothing_walk (w : World) : Calls Try.prog 27 #[] w fun e w' => e = .returned (.bool true) ∧ Kept [] w w' := by
  go_enter Try.func27, Try.ntmps27
  go_wp2_with fail
  refine (cutAt_nil _ _).mono ?_
  rintro e w1 ⟨rfl, k⟩
  have K := Lib.hid k
  clear k
  go_wp2_with fail
  refine (read_nil _ _).mono ?_
  rintro e w2 ⟨rfl, k⟩
  have K := Lib.hid (K.out.tr k)
  clear k
  go_wp2_with fail
  refine (names_nil _).mono ?_
  rintro e w3 ⟨rfl, k⟩
  have K := Lib.hid (K.out.tr k)
  clear k
  go_wp2_with fail
  refine (ops_nil _).mono ?_
  rintro e w4 ⟨rfl, k⟩
  have K := Lib.hid (K.out.tr k)
  clear k
  go_wp2_with fail
  refine (crash_nil _ _ _ _).mono ?_
  rintro e w5 ⟨rfl, k⟩
  have K := Lib.hid (K.out.tr k)
  clear k
  go_wp2_with fail
  refine (append_nil _ _ _ _ _).mono ?_
  rintro e w6 ⟨rfl, k⟩
  have K := Lib.hid (K.out.tr k)
  clear k
  go_wp2_with fail
  refine (sync_nil _ _).mono ?_
  rintro e w7 ⟨rfl, k⟩
  have K := Lib.hid (K.out.tr k)
  clear k
  go_wp2_with fail
  refine (rename_nil _ _ _).mono ?_
  rintro e w8 ⟨rfl, k⟩
  have K := Lib.hid (K.out.tr k)
  clear k
  go_wp2_with fail
  refine (delete_nil _ _).mono ?_
  rintro e w9 ⟨rfl, k⟩
  have K := Lib.hid (K.out.tr k)
  clear k
  go_wp2_with fail
  refine (syncDir_nil _).mono ?_
  rintro e w10 ⟨rfl, k⟩
  have K := Lib.hid (K.out.tr k)
  clear k
  go_wp2_with fail
  refine (poke_nil _ _ _ _).mono ?_
  rintro e w11 ⟨rfl, k⟩
  have K := Lib.hid (K.out.tr k)
  clear k
  go_wp2_with fail
  go_ret
  exact ⟨rfl, K.out⟩
end Go.Proofs.Ytbankfdgoolbdaa
namespace Go.Proofs.Ytbankfdgoolbdaa
open Go Go.RowKit Go.Lib
set_option linter.unusedVariables false
variable {w0 w w' : World} {db : Nat} {a : ADk}

def nmLast : ByteArray := ⟨#[108, 97, 115, 116, 105, 110, 103]⟩
theorem nmLast_ok : isNm nmLast.data.toList = true := by decide

theorem not_last {x : ByteArray} (h : x ≠ nmLast) : ¬ x.toList = [108, 97, 115, 116, 105, 110, 103] := fun e => h (Go.WideShapes.bytes_inj (by rw [← ByteArray.toList_eq, e]; rfl))

/-- The script's part from one place on. -/
theorem OpsIn.one {sv : Value} {n : Nat} {f : Nat → DOp} (h : OpsIn w sv n f) {i : Nat} (hi : i < n) : ∀ p c, sv = .slice p n c → ∃ b off, p = some ⟨b, off, none⟩ ∧ OpCells w b (off + i * 8) (f i) ∧ OpsIn w (.slice (some ⟨b, off + i * 8, none⟩) 1 (c - i)) 1 (fun k => f (i + k)) := by
  intro p c e
  obtain ⟨p', c', rfl, h1, h2, h3, h4⟩ := h
  obtain ⟨rfl, rfl⟩ : p' = p ∧ c' = c := by injection e with e1 _ e2; exact ⟨e1, e2⟩
  obtain ⟨b, off, rfl, h5⟩ := h4 (by omega)
  refine ⟨b, off, rfl, h5 i hi, _, _, rfl, by omega, by omega, fun k hk => h3 _ (by omega), fun _ => ⟨b, off + i * 8, rfl, fun k hk => ?_⟩⟩
  have := h5 (i + k) (by omega)
  rw [Nat.add_mul, ← Nat.add_assoc] at this
  exact this

set_option maxHeartbeats 4000000 in
set_option maxRecDepth 100000 in
theorem lasts_law {s1 s2 bv : Value} {n1 n2 : Nat} {f1 f2 : Nat → DOp} {bs : List UInt8} (h1 : OpsIn w s1 n1 f1) (h2 : OpsIn w s2 n2 f2) (hb : BytesX w bv bs) (k d t : Int) :
    Calls Try.prog 4 #[s1, bv, s2, FateV k d t] w fun e w' => e = .returned (.bool true) ∧ Kept [] w w' := by
  have HB := Lib.hid hb
  have H1 := Lib.hid h1
  have H2 := Lib.hid h2
  obtain ⟨p1, c1, hs1, hn1, _⟩ := h1
  obtain ⟨p2, c2, hs2, hn2, hm2, hft2, _⟩ := h2
  obtain ⟨pb, cb, hsb, _⟩ := hb.out
  subst hs1 hs2 hsb
  have HFT := Lib.hid hft2
  clear hb hft2
  have hk0 : Kept [] w (w.alloc (.cells #[.int .i64 k, .int .i64 d, .int .i64 t] 29)) := (Kept.refl _ _).alloc _
  have c0 : (w.alloc (.cells #[.int .i64 k, .int .i64 d, .int .i64 t] 29)).cell? ⟨w.heap.size, 0, none⟩ = some (.int .i64 k) := by rw [World.cell?_alloc_mark]; rfl
  have c1 : (w.alloc (.cells #[.int .i64 k, .int .i64 d, .int .i64 t] 29)).cell? ⟨w.heap.size, 1, none⟩ = some (.int .i64 d) := by rw [World.cell?_alloc_mark]; rfl
  have c2 : (w.alloc (.cells #[.int .i64 k, .int .i64 d, .int .i64 t] 29)).cell? ⟨w.heap.size, 2, none⟩ = some (.int .i64 t) := by rw [World.cell?_alloc_mark]; rfl
  have HH1 := Lib.hid (H1.out.kept hk0)
  have HH2 := Lib.hid (H2.out.kept hk0)
  have HHB := Lib.hid (HB.out.kept hk0 (by simp))
  have HK0 := Lib.hid hk0
  have HFC := Lib.hid (And.intro c0 (And.intro c1 c2))
  clear hk0 c0 c1 c2 H1 H2 HB
  unfold FateV
  go_enter Try.func4, Try.ntmps4
  go_wp2_with fail
  generalize (w.alloc (.cells #[.int .i64 k, .int .i64 d, .int .i64 t] 29)) = W at *
  generalize w.heap.size = fb at *
  refine (shown_walk _).mono ?_
  rintro e w3 ⟨rfl, hk3⟩
  have HK3 := Lib.hid hk3
  clear hk3
  go_wp2_with fail
  refine (new_walk _).mono ?_
  rintro e w4 ⟨db, rfl, _, h4⟩
  have HP := Lib.hid (play_walk (w0 := W) (m := 100) (h4.from HK3.out) HH1.out (by omega))
  have hok1 := playN_ok ADk.new_ok f1 (min n1 100)
  have hl1 := playN_lit new_lit f1 (min n1 100)
  generalize playN f1 (min n1 100) ADk.new = q1 at *
  have hops1 : q1.ops ≤ 1000 := by have := hl1.2; have : ADk.new.ops = 0 := rfl; omega
  have HB := Lib.hid (last_begins hok1 hl1.1 hops1 nmLast.data.toList nmLast_ok bs)
  have HOK1 := Lib.hid hok1
  clear h4 hok1 hl1 hops1
  unfold ptr at HP ⊢
  go_wp2_with fail
  refine HP.out.mono ?_
  rintro e w5 ⟨rfl, h5⟩
  have HD := Lib.hid (delete_in h5 nmLast)
  clear HP h5
  unfold ptr nmLast at HD
  go_wp2_with fail
  refine HD.out.mono ?_
  rintro e w6 ⟨rfl, h6⟩
  have HA := Lib.hid (append_out h6 nmLast HHB.out)
  clear HD h6
  unfold ptr at HA
  change Hid (Calls _ _ _ _ fun e w' => e = .returned (.int .i64 (q1.lastA nmLast.data.toList bs).1) ∧ Has [] W w' (Dk db (q1.lastA nmLast.data.toList bs).2)) at HA
  have hshow : ∀ (m : Int) (q : ADk) (x : ByteArray), (m, q) = (m, q) := fun _ _ _ => rfl
  rcases HB.out with hb23 | ⟨ha0, hb0, hc0, hlit, j, hlast⟩
  · rw [hb23] at HA
    clear HB hb23 hshow
    generalize (q1.delete _).1 = qd at *
    unfold nmLast at HA
    go_wp2_with fail
    refine HA.out.mono ?_
    rintro e w7 ⟨rfl, h7⟩
    have HE := Lib.hid (HK0.out.tr h7.keeps)
    clear h7 HA
    go_wp2_with fail
    go_ret
    exact ⟨rfl, HE.out⟩
  · rw [ha0] at HA
    have HHB0 := Lib.hid hb0
    have HHC0 := Lib.hid hc0
    have hokA : (q1.lastA nmLast.data.toList bs).2.Ok := ADk.append_ok (q1.delete_ok HOK1.out _) _ _
    have hokB : (q1.lastB nmLast.data.toList bs).2.Ok := ADk.sync_ok hokA _
    have hokC : (q1.lastC nmLast.data.toList bs).2.Ok := ADk.syncDir_ok hokB
    have HL := Lib.hid (And.intro hokC (And.intro hlit hlast))
    clear HB ha0 hb0 hc0 hlit hlast hokA hokB hokC hshow
    generalize (q1.delete _).1 = qd at *
    unfold nmLast at HA
    go_wp2_with fail
    refine HA.out.mono ?_
    rintro e w7 ⟨rfl, h7⟩
    have HS := Lib.hid (sync_in h7 nmLast)
    change Hid (Calls _ _ _ _ fun e w' => e = .returned (.int .i64 (q1.lastB nmLast.data.toList bs).1) ∧ Has [] W w' (Dk db (q1.lastB nmLast.data.toList bs).2)) at HS
    rw [HHB0.out] at HS
    clear h7 HA
    unfold ptr nmLast at HS
    go_wp2_with fail
    refine HS.out.mono ?_
    rintro e w8 ⟨rfl, h8⟩
    have HS2 := Lib.hid (syncDir_in h8)
    change Hid (Calls _ _ _ _ fun e w' => e = .returned (.int .i64 (q1.lastC nmLast.data.toList bs).1) ∧ Has [] W w' (Dk db (q1.lastC nmLast.data.toList bs).2)) at HS2
    rw [HHC0.out] at HS2
    clear h8 HS HHB0 HHC0
    unfold ptr at HS2
    go_wp2_with fail
    refine HS2.out.mono ?_
    rintro e w9 ⟨rfl, h9⟩
    have H9 := Lib.hid h9
    clear h9 HS2
    obtain ⟨kk, hkk⟩ : ∃ kk, min n2 100 = kk := ⟨_, rfl⟩
    have hkn : kk ≤ n2 := by omega
    have hkm : kk ≤ 100 := by omega
    have HKK := Lib.hid hkk
    clear hkk
    generalize (q1.lastC nmLast.data.toList bs).2 = qc at *
    go_wp2_with fail
    go_loopg [15] kk (fun g iv wr => ∃ (i : Nat) (q : ADk), i ≤ kk ∧ g = kk - i ∧ iv = .int .i64 i ∧ (q.Ok ∧ q.Lit ∧ Lasting q nmLast.data.toList bs j) ∧ Has [] W wr (Dk db q))
    case atStart => exact ⟨0, qc, Nat.zero_le _, rfl, rfl, HL.out, H9.out⟩
    case round =>
      obtain ⟨i, q, hi, hg, rfl, hq, hW⟩ := hrel
      have HG := Lib.hid hg
      have HQ := Lib.hid hq
      clear hg hq H9
      by_cases hlt : i < kk
      · have d1 : ((i : Int) < (n2 : Int)) ↔ True := by simp; omega
        have d2 : ((i : Int) < 100) ↔ True := by simp; omega
        have hin : i < n2 := by omega
        obtain ⟨b, off, rfl, hoc, hS1⟩ := HH2.out.one hin _ _ rfl
        obtain ⟨_, e1, e2, _⟩ := hoc.kept hW.keeps
        have HS := Lib.hid hS1
        have hdx : decide (i < n2) = true := decide_eq_true hin
        have hcc : i < c2 := by omega
        have HW := Lib.hid hW
        have H1N := Lib.hid (show (fun k => f2 (i + k)) 0 = f2 i from rfl)
        clear hoc hS1 hW
        by_cases hs : (f2 i).s = nmLast
        · have t1 : ((f2 i).s.toList = [108, 97, 115, 116, 105, 110, 103]) ↔ True := by rw [hs]; simp [nmLast, ByteArray.toList_eq]
          have t1b : (((f2 i).s.toList == [108, 97, 115, 116, 105, 110, 103]) = true) := by simpa using t1.2 trivial
          have e3 := e1
          clear hs
          go_wp2_with fail
          go_roundg (kk - (i + 1))
          case measure => rw [HG.out]; omega
          case rel => exact ⟨i + 1, q, by omega, rfl, by go_num, HQ.out, HW.out⟩
        · have t1 : ((f2 i).s.toList = [108, 97, 115, 116, 105, 110, 103]) ↔ False := by simpa using not_last hs
          have t1b : (((f2 i).s.toList == [108, 97, 115, 116, 105, 110, 103]) = false) := by simpa using t1.1
          by_cases ht : (f2 i).t = nmLast
          · have t2 : ((f2 i).t.toList = [108, 97, 115, 116, 105, 110, 103]) ↔ True := by rw [ht]; simp [nmLast, ByteArray.toList_eq]
            have t2b : (((f2 i).t.toList == [108, 97, 115, 116, 105, 110, 103]) = true) := by simpa using t2.2 trivial
            clear hs ht
            go_wp2_with fail
            go_roundg (kk - (i + 1))
            case measure => rw [HG.out]; omega
            case rel => exact ⟨i + 1, q, by omega, rfl, by go_num, HQ.out, HW.out⟩
          · have t2 : ((f2 i).t.toList = [108, 97, 115, 116, 105, 110, 103]) ↔ False := by simpa using not_last ht
            have t2b : (((f2 i).t.toList == [108, 97, 115, 116, 105, 110, 103]) = false) := by simpa using t2.1
            have hact := HQ.out.2.2.act HQ.out.1 HQ.out.2.1 (f2 i) (fun e => hs (Go.WideShapes.bytes_inj e)) (fun e => ht (Go.WideShapes.bytes_inj e))
            have HAC := Lib.hid (And.intro (ADk.act_ok HQ.out.1 (f2 i)) (And.intro (ADk.act_lit HQ.out.2.1 (f2 i)).1 hact))
            have HP := Lib.hid ((play_walk (m := 1) HW.out HS.out (by omega)).mono (R' := fun e w' => e = .returned (.tuple #[]) ∧ Has [] W w' (Dk db (q.act (f2 i)))) (by
              rintro e w' ⟨rfl, h'⟩
              exact ⟨rfl, h'⟩))
            clear hs ht hact
            unfold ptr at HP
            go_wp2_with fail
            refine HP.out.mono ?_
            rintro e w10 ⟨rfl, h10⟩
            have H10 := Lib.hid h10
            clear h10 HP
            go_wp2_with fail
            go_roundg (kk - (i + 1))
            case measure => rw [HG.out]; omega
            case rel => exact ⟨i + 1, _, by omega, rfl, by go_num, HAC.out, H10.out⟩
      · obtain rfl : i = kk := by omega
        have hc := (crash_walk hW k d t).mono (R' := fun e w' => ∃ db2, e = .returned (ptr db2) ∧ Has [] W w' (Dk db2 (q.crash k d t))) (by
          rintro e w' ⟨db2, rfl, h'⟩
          exact ⟨db2, rfl, h'.from hW.keeps⟩)
        have HC := Lib.hid hc
        have c0 : wr.cell? ⟨fb, 0, none⟩ = _ := hW.keeps.cell HFC.out.1 (by simp)
        have c1' : wr.cell? ⟨fb, 1, none⟩ = _ := hW.keeps.cell HFC.out.2.1 (by simp)
        have c2' : wr.cell? ⟨fb, 2, none⟩ = _ := hW.keeps.cell HFC.out.2.2 (by simp)
        have HR := Lib.hid (HQ.out.2.2.crash HQ.out.1 k d t)
        clear hc hW
        unfold ptr at HC
        by_cases hn : i < n2
        · have d1 : ((i : Int) < (n2 : Int)) ↔ True := by simp; omega
          have d2 : ((i : Int) < 100) ↔ False := by have := HKK.out; simp; omega
          go_wp2_with fail
          refine HC.out.mono ?_
          rintro e w12 ⟨db2, rfl, h12⟩
          have HRD := Lib.hid (read_walk h12 nmLast)
          rw [HR.out] at HRD
          have HK12 := Lib.hid h12.keeps
          clear h12 HC
          unfold ptr nmLast at HRD
          go_wp2_with fail
          refine HRD.out.mono ?_
          rintro e w13 ⟨v, rfl, h13⟩
          have HK13 := Lib.hid (HK12.out.tr h13.keeps)
          have e1 := conv_str (bytesAt_part h13)
          have e2 := conv_strX (HHB.out.kept HK13.out (by simp))
          clear h13 HRD
          go_wp2_with fail
          go_ret
          exact ⟨rfl, HK0.out.tr HK13.out⟩
        · have d1 : ((i : Int) < (n2 : Int)) ↔ False := by simp; omega
          go_wp2_with fail
          refine HC.out.mono ?_
          rintro e w12 ⟨db2, rfl, h12⟩
          have HRD := Lib.hid (read_walk h12 nmLast)
          rw [HR.out] at HRD
          have HK12 := Lib.hid h12.keeps
          clear h12 HC
          unfold ptr nmLast at HRD
          go_wp2_with fail
          refine HRD.out.mono ?_
          rintro e w13 ⟨v, rfl, h13⟩
          have HK13 := Lib.hid (HK12.out.tr h13.keeps)
          have e1 := conv_str (bytesAt_part h13)
          have e2 := conv_strX (HHB.out.kept HK13.out (by simp))
          clear h13 HRD
          go_wp2_with fail
          go_ret
          exact ⟨rfl, HK0.out.tr HK13.out⟩
end Go.Proofs.Ytbankfdgoolbdaa
namespace Go.Proofs.Ytbankfdgoolbdaa
open Go Go.RowKit Go.Lib
set_option linter.unusedVariables false
variable {o : List Nat} {w0 w w' w1 : World} {db rb wb ob : Nat} {a b : ADk} {q : DOp} {v : Value}

theorem does_all (h : Has [] w0 w (St wb db rb a a .emp)) (hq : q.Fits) (hB : BytesX w0 v q.b) (hsz : q.b.length ≤ 140737488351232) :
    Calls Try.prog 25 #[ptr wb, opV q v] w fun e w' => e = .returned (.bool true) ∧ ∃ a', Done9 w0 w' wb a' := by
  have hlt : pickN q.kind 9 < 9 := by
    unfold pickN
    split <;> omega
  obtain ⟨p, c, hv, _⟩ := id hB.out
  have hv1 : ∃ p n c, v = .slice p n c := ⟨p, _, c, hv⟩
  have hv2 : ∃ p c, v = .slice p q.b.length c := ⟨p, c, hv⟩
  have fin : ∀ k, (Calls Try.prog 25 #[ptr wb, opV q v] w fun e w' => e = .returned (.bool true) ∧ Done9 w0 w' wb (a.act9 k q)) → Calls Try.prog 25 #[ptr wb, opV q v] w fun e w' => e = .returned (.bool true) ∧ ∃ a', Done9 w0 w' wb a' :=
    fun k hk => hk.mono fun e w' he => ⟨he.1, _, he.2⟩
  obtain ⟨k, hk⟩ : ∃ k, pickN q.kind 9 = k := ⟨_, rfl⟩
  rw [hk] at hlt
  match k, hlt, hk with
  | 0, _, hk => exact fin _ (does_0 h hq hk hB hsz)
  | 1, _, hk => exact fin _ (does_1 h hq hk hv1)
  | 2, _, hk => exact fin _ (does_2 h hq hk hv1)
  | 3, _, hk => exact fin _ (does_3 h hq hk hv1)
  | 4, _, hk => exact fin _ (does_4 h hq hk hv1)
  | 5, _, hk => exact fin _ (does_5 h hq hk hv1)
  | 6, _, hk => exact fin _ (does_6 h hq hk hv1)
  | 7, _, hk => exact fin _ (does_7 h hq hk hv2)
  | 8, _, hk => exact fin _ (does_8 h hq hk hv1)
  | k + 9, hlt, _ => omega

theorem imp_unit (A : Part) : A.Imp (A.sep .emp) := fun w fp h => ⟨fp, ⟨fp, [], h, rfl, by simp, by simp⟩, by simp⟩

theorem st_made {w3 : World} (hd : Has [] w0 w (Dk db a)) (hr : Has [] w w3 (Rf rb b)) : Has [] w0 (w3.alloc (.cells #[.pointer (some ⟨db, 0, none⟩), .pointer (some ⟨rb, 0, none⟩)] 54)) (St w3.heap.size db rb a b .emp) := by
  have hb := Has.madeBlk (w := w3) #[.pointer (some ⟨db, 0, none⟩), .pointer (some ⟨rb, 0, none⟩)] 54 (wF db rb) 2 rfl (by
    intro i hi
    match i with
    | 0 | 1 => rfl
    | i + 2 => omega)
  have h1 := (hd.beside hr).beside hb
  refine h1.weaken ((imp_assoc _ _ _).trans ?_)
  exact Part.Imp.sep (Part.Imp.refl _) (Part.Imp.sep (Part.Imp.refl _) (imp_unit _))

set_option maxHeartbeats 4000000 in
set_option maxRecDepth 100000 in
theorem plays_law {s1 : Value} {n1 : Nat} {f1 : Nat → DOp} (h1 : OpsIn w s1 n1 f1) (hsz : ∀ i, i < n1 → (f1 i).b.length ≤ 140737488351232) :
    Calls Try.prog 7 #[s1] w fun e w' => e = .returned (.bool true) ∧ Kept [] w w' := by
  have H1 := Lib.hid h1
  obtain ⟨p1, cA, hs1, hn1, hm1, hft1, hcell1⟩ := h1
  subst hs1
  have HC := Lib.hid hcell1
  clear hcell1
  have HFT := Lib.hid hft1
  have HSZ := Lib.hid hsz
  clear hft1 hsz
  go_enter Try.func7, Try.ntmps7
  go_wp2_with fail
  refine (shown_walk _).mono ?_
  rintro e w3 ⟨rfl, hk3⟩
  have HK3 := Lib.hid hk3
  clear hk3
  go_wp2_with fail
  refine (new_walk _).mono ?_
  rintro e w4 ⟨db, rfl, _, h4⟩
  have HD4 := Lib.hid (h4.from HK3.out)
  clear h4
  unfold ptr
  go_wp2_with fail
  refine (rnew_walk _).mono ?_
  rintro e w5 ⟨rb, rfl, h5⟩
  have HS := Lib.hid (st_made HD4.out h5)
  clear h5 HD4 HK3
  unfold ptr
  go_wp2_with fail
  obtain ⟨k, hk⟩ : ∃ k, min n1 200 = k := ⟨_, rfl⟩
  generalize w5.heap.size = wb at *
  generalize hW6 : (w5.alloc (.cells #[.pointer (some ⟨db, 0, none⟩), .pointer (some ⟨rb, 0, none⟩)] 54)) = w6 at *
  clear hW6
  go_loopg [5, 6, 7] k (fun g iv sv tv wr => ∃ i : Nat, i ≤ k ∧ g = k - i ∧ iv = .int .i64 i ∧ ∃ db rb a, Has [] w wr (St wb db rb a a .emp))
  case atStart => exact ⟨0, Nat.zero_le _, rfl, rfl, _, _, _, HS.out⟩
  case round =>
    obtain ⟨i, hi, hkk, rfl, d, r, a, hH⟩ := hrel
    have HKK := Lib.hid hkk
    have HH := Lib.hid hH
    clear hkk
    by_cases hlt : i < k
    · have d1 : ((i : Int) < (n1 : Int)) ↔ True := by simp; omega
      have d2 : ((i : Int) < (200 : Int)) ↔ True := by simp; omega
      obtain ⟨g, off, rfl, hcs⟩ := HC.out (by omega)
      obtain ⟨c0, c1, c2, ⟨bv, c3, hb⟩, c4, c5, c6, c7⟩ := hcs i (by omega)
      have hkp := hH.keeps
      have c0 := hkp.cell c0 (by simp)
      have c1 := hkp.cell c1 (by simp)
      have c2 := hkp.cell c2 (by simp)
      have c3 := hkp.cell c3 (by simp)
      have c4 := hkp.cell c4 (by simp)
      have c5 := hkp.cell c5 (by simp)
      have c6 := hkp.cell c6 (by simp)
      have c7 := hkp.cell c7 (by simp)
      have HDO := Lib.hid (does_all hH (HFT.out i (by omega)) hb (HSZ.out i (by omega)))
      unfold opV ptr at HDO
      have hd : decide (i < n1) = true := decide_eq_true (by omega)
      have hdc : i < cA := by omega
      clear hcs hkp hb hH
      go_wp2_with fail
      refine HDO.out.mono ?_
      rintro e w7 ⟨rfl, a', d', r', h7⟩
      have HA := Lib.hid (alike_walk h7)
      have H7 := Lib.hid h7
      clear h7 HDO c0 c1 c2 c3 c4 c5 c6 c7
      go_wp2_with fail
      refine HA.out.mono ?_
      rintro e w8 ⟨rfl, k8⟩
      have H8 := Lib.hid (H7.out.quiet k8)
      clear k8 HA
      go_wp2_with fail
      go_roundg (k - (i + 1))
      case measure => rw [HKK.out]; omega
      case rel => exact ⟨i + 1, by omega, rfl, by go_num, _, _, _, H8.out⟩
    · obtain rfl : i = k := by omega
      clear hH
      have HK9 := Lib.hid HH.out.keeps
      by_cases h200 : i < n1
      · have d1 : ((i : Int) < (n1 : Int)) ↔ True := by simp; omega
        have d2 : ((i : Int) < (200 : Int)) ↔ False := by simp; omega
        go_wp2_with fail
        refine (nothing_walk _).mono ?_
        rintro e w8 ⟨rfl, k8⟩
        go_wp2_with fail
        go_ret
        exact ⟨rfl, HK9.out.tr k8⟩
      · have d1 : ((i : Int) < (n1 : Int)) ↔ False := by simp; omega
        go_wp2_with fail
        refine (nothing_walk _).mono ?_
        rintro e w8 ⟨rfl, k8⟩
        go_wp2_with fail
        go_ret
        exact ⟨rfl, HK9.out.tr k8⟩
end Go.Proofs.Ytbankfdgoolbdaa
namespace Go.Proofs.Ytbankfdgoolbdaa
open Go Go.RowKit Go.Lib Go.ChangeShapes Go.WideShapes Go.ChangeAt
set_option linter.unusedVariables false
variable {H : Type} {enc : TypeId × Value → H}

theorem rk_bO : Try.prog.bytesOf 5 = 1 := by kernel_rfl

theorem bytes_sz {W : World} {fuel : Nat} {p : Option Addr} {len cap : Nat} {y : DataW H × List MemPlace} (h : DataW.trod enc Try.prog W 0 (fun _ => true) true fuel 27 [.slice p len cap] = some y)
    (hw : ∀ x ∈ y.1.weights Try.prog 27, x ≤ reachBytes) : len ≤ reachBytes := by
  rcases DataW.trod_slice Try.underlying27 h with ⟨e, _⟩ | ⟨a, l, c, elems, rest, n, _, e, rfl, _, _, _, hl, _⟩
  · simp only [List.cons.injEq, Value.slice.injEq, and_true] at e
    omega
  · simp only [List.cons.injEq, Value.slice.injEq, and_true] at e
    obtain ⟨_, rfl, rfl⟩ := e
    have := hw _ (by simp only [DataW.weights, Try.underlying27]; exact List.mem_cons_self)
    rw [rk_bO] at this
    simp only [List.length_map] at this
    omega

theorem op_sz {W : World} {n : Nat} {cs : List Value} {x : DataW H × List MemPlace} (h : DataW.trod enc Try.prog W 0 (fun _ => true) true n 38 cs = some x)
    (hw : ∀ z ∈ x.1.weights Try.prog 38, z ≤ reachBytes) {p : Option Addr} {len cap : Nat} (h3 : cs[3]? = some (.slice p len cap)) : len ≤ reachBytes := by
  obtain ⟨xs, m, _, rfl, hlen, hxs, hf⟩ := DataW.trod_struct rk_op h
  have hF := rk_opF
  obtain ⟨f3, hf3⟩ : ∃ f3, (fieldsOf 38)[3]? = some f3 := by
    cases hh : (fieldsOf 38)[3]? with
    | some f => exact ⟨f, rfl⟩
    | none =>
      have := congrArg (fun a : Array (TypeId × Nat) => a[3]?) hF
      simp only [Array.getElem?_map, hh] at this
      cases this
  have e3 : (f3.type, f3.offset) = (27, 3) := by
    have := congrArg (fun a : Array (TypeId × Nat) => a[3]?) hF
    simp only [Array.getElem?_map, hf3] at this
    exact Option.some.inj this
  obtain ⟨et, eo⟩ : f3.type = 27 ∧ f3.offset = 3 := by injection e3 with a b; exact ⟨a, b⟩
  have h4 := hf 3 f3 hf3
  rw [et, eo, rk_cBs] at h4
  have hc : (cs.drop 3).take 1 = [.slice p len cap] := by
    obtain ⟨hl, he⟩ := List.getElem?_eq_some_iff.1 h3
    rw [List.drop_eq_getElem_cons hl, he]
    rfl
  rw [hc] at h4
  have hx3 : 3 < xs.length := by
    rw [hxs]; exact (Array.getElem?_eq_some_iff.1 hf3).1
  rw [List.getElem?_eq_getElem hx3] at h4
  refine bytes_sz h4 fun z hz => hw z ?_
  simp only [DataW.weights, rk_op]
  refine DataW.weights_mem_each (j := 3) (t := 27) (d := xs[3].1) ?_ ?_ z hz
  · rw [List.getElem?_map, Array.getElem?_toList, hf3]
    simp [et]
  · rw [List.getElem?_map, List.getElem?_eq_getElem hx3]
    rfl

theorem weights_all {t : TypeId} : ∀ {l : List (DataW H)} {i : Nat} {d : DataW H}, l[i]? = some d → ∀ z ∈ d.weights Try.prog t, z ∈ DataW.weightsAll Try.prog t l
  | d0 :: l, 0, d, h, z, hz => by
    simp only [List.getElem?_cons_zero, Option.some.injEq] at h
    subst h
    simp only [DataW.weightsAll, List.mem_append]
    exact .inl hz
  | d0 :: l, i + 1, d, h, z, hz => by
    simp only [List.getElem?_cons_succ] at h
    simp only [DataW.weightsAll, List.mem_append]
    exact .inr (weights_all h z hz)
  | [], _, _, h, _, _ => by simp at h

theorem ops_sz {t : TypeId} {W : World} {fuel : Nat} {v : Value} {n : Nat} {f : Nat → DOp} {y : DataW H × List MemPlace} (ht : Try.prog.underlying t = some (.slice 38)) (hin : OpsIn W v n f)
    (h : DataW.trod enc Try.prog W 0 (fun _ => true) true fuel t [v] = some y) (hw : ∀ z ∈ y.1.weights Try.prog t, z ≤ reachBytes) : ∀ i, i < n → (f i).b.length ≤ reachBytes := by
  intro i hi
  obtain ⟨p, c, rfl, _, _, _, hp⟩ := hin
  obtain ⟨b, off, rfl, hcells⟩ := hp (by omega)
  rcases DataW.trod_slice ht h with ⟨e, _⟩ | ⟨a, l, c', elems, rest, m, _, e, rfl, _, _, _, hl, hel, _⟩
  · cases e
  · simp only [List.cons.injEq, Value.slice.injEq, Option.some.injEq, and_true] at e
    obtain ⟨rfl, rfl, rfl⟩ := e
    have h1 := hel i hi
    rw [List.getElem?_eq_getElem (by omega), rk_cO] at h1
    obtain ⟨cs, hcs, htr⟩ := Option.bind_eq_some_iff.1 h1
    obtain ⟨_, hlc, hc⟩ := World.cells?_some hcs
    have h3 := hc 3 (by omega)
    rw [addr_add, addr_add] at h3
    obtain ⟨_, _, _, ⟨v3, hv3, hB⟩, _⟩ := hcells i hi
    obtain ⟨p3, c3, rfl, _⟩ := hB.out
    rw [hv3] at h3
    refine op_sz htr (fun z hz => hw z ?_) h3.symm
    simp only [DataW.weights, ht, List.mem_cons, List.mem_append]
    refine .inr (.inl (weights_all (i := i) ?_ z hz))
    rw [List.getElem?_map, List.getElem?_eq_getElem (by omega)]
    rfl
end Go.Proofs.Ytbankfdgoolbdaa
