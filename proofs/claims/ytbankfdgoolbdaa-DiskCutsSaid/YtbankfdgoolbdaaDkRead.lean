/- Read, Poke walked; what a nil disk answers. -/
import Derived.Test.YtbankfdgoolbdaaDkOps
namespace Go.Proofs.Ytbankfdgoolbdaa
open Go Go.RowKit Go.Lib
set_option linter.unusedVariables false
variable {o : List Nat} {w0 w w' w1 : World} {db : Nat} {a : ADk} {L : DLay}

theorem row_none (w : World) : Has [] w w (.row 5 1 (.slice none 0 0) ([] : List UInt8).length (bytesV [])) := ⟨[], ⟨World.ownsRow_nil _ _ _ _, by simp [rowsOf, Value.ownBlock]⟩, by simp, Kept.refl _ _⟩

set_option maxHeartbeats 1000000 in
set_option maxRecDepth 100000 in
theorem read_walk (h : Has o w0 w (Dk db a)) (x : ByteArray) :
    Calls Try.prog 18 #[ptr db, .string x] w fun e w' => ∃ v, e = .returned (.tuple #[v, .int .i64 (a.read x.data.toList).2]) ∧ Has [] w w' (.row 5 1 v (a.read x.data.toList).1.length (bytesV (a.read x.data.toList).1)) := by
  obtain ⟨ha, L, hL⟩ := dk_open h
  have c5 : w.cell? ⟨db, 5, none⟩ = some (.bool a.off) := (dkl_cell hL 5 (by omega)).1
  have c0 : w.cell? ⟨db, 0, none⟩ = some (.map (some L.mb)) := (dkl_cell hL 0 (by omega)).1
  cases hoff : a.off with
  | true =>
    rw [show a.read x.data.toList = ([], 24) by unfold ADk.read; rw [hoff]; rfl]
    rw [hoff] at c5
    clear hL h ha hoff
    unfold ptr
    go_enter Try.func18, Try.ntmps18
    go_wp2_with fail
    go_ret2
    exact ⟨_, rfl, row_none _⟩
  | false =>
    rw [hoff] at c5
    have HIN := Lib.hid (isName_walk x w)
    cases hnm : isNm x.data.toList with
    | false =>
      rw [show a.read x.data.toList = ([], 20) by unfold ADk.read; rw [hoff, hnm]; rfl]
      rw [hnm] at HIN
      clear hL h ha hoff hnm
      unfold ptr
      go_enter Try.func18, Try.ntmps18
      go_wp2_with fail
      refine HIN.out.mono ?_
      rintro e w2 ⟨rfl, k2⟩
      have K2 := Lib.hid k2
      clear k2
      go_wp2_with fail
      go_ret2
      exact ⟨_, rfl, (row_none _).from K2.out⟩
    | true =>
      rw [hnm] at HIN
      have hsz := nm_le hnm
      change x.size ≤ maxLen at hsz
      have HL := Lib.hid hL
      have HSZ := Lib.hid hsz
      cases hf : alFind a.now x.data.toList with
      | none =>
        rw [show a.read x.data.toList = ([], 21) by unfold ADk.read; rw [hoff, hnm, hf]; rfl]
        have HF := Lib.hid hf
        clear hL h ha hoff hnm hsz hf c0
        unfold ptr
        go_enter Try.func18, Try.ntmps18
        go_wp2_with fail
        refine HIN.out.mono ?_
        rintro e w2 ⟨rfl, k2⟩
        have hL2 := HL.out.quiet k2
        have c0 : w2.cell? ⟨db, 0, none⟩ = some (.map (some L.mb)) := (dkl_cell hL2 0 (by omega)).1
        have hlk := (dkl_now hL2).look x HSZ.out
        rw [dirV_find, HF.out] at hlk
        simp only [Option.map_none, Option.getD_none] at hlk
        have K2 := Lib.hid k2
        clear k2 hL2
        go_wp2_with fail
        go_ret2
        exact ⟨_, rfl, (row_none _).from K2.out⟩
      | some fi =>
        rw [show a.read x.data.toList = ((a.file fi).b, 0) by unfold ADk.read; rw [hoff, hnm, hf]; rfl]
        have HF := Lib.hid hf
        have HLT := Lib.hid (ha.now.ids _ (alFind_mem hf))
        have HBL := Lib.hid (a.file_ok ha fi).1
        clear hL h ha hoff hnm hsz hf c0
        unfold ptr
        go_enter Try.func18, Try.ntmps18
        go_wp2_with fail
        refine HIN.out.mono ?_
        rintro e w2 ⟨rfl, k2⟩
        have hL2 := HL.out.quiet k2
        have c0 : w2.cell? ⟨db, 0, none⟩ = some (.map (some L.mb)) := (dkl_cell hL2 0 (by omega)).1
        have hlk := (dkl_now hL2).look x HSZ.out
        rw [dirV_find, HF.out] at hlk
        simp only [Option.map_some, Option.getD_some, ptr] at hlk
        obtain ⟨o4, hF, _⟩ := dkl_file hL2 HLT.out
        obtain ⟨d0, _, _, hbt, ⟨p, c, hv⟩, _⟩ := file_at hF
        have HC := Lib.hid (bytes_clone hbt (by have := HBL.out; omega))
        rw [hv] at d0 HC
        have K2 := Lib.hid k2
        clear k2 hL2 hF hbt hv
        go_wp2_with fail
        refine HC.out.mono ?_
        rintro e w3 ⟨v', rfl, h3⟩
        have H3 := Lib.hid (h3.from K2.out)
        clear h3
        go_wp2_with fail
        go_ret2
        exact ⟨_, rfl, H3.out⟩

theorem file_put {ad : Nat} {x : AFile} {g cap : Nat} (h : Has o w0 w (fileP ad (.slice (some ⟨g, 0, none⟩) x.b.length cap) x)) (k : Nat) (hk : k < x.b.length) (c : UInt8) :
    Has o w0 (w.setCell ⟨g, k, none⟩ (byteV c)) (fileP ad (.slice (some ⟨g, 0, none⟩) x.b.length cap) ⟨x.b.set k c, x.sy⟩) := by
  obtain ⟨o1, h1, _, _, b1⟩ := h.right
  have := b1 _ _ (h1.setRow k (byteV c) hk)
  have e : (bytesV x.b).set k (byteV c) = bytesV (x.b.set k c) := by unfold bytesV; rw [List.map_set]
  rw [e] at this
  unfold fileP
  rw [show (x.b.set k c).length = x.b.length by simp]
  exact this

set_option maxHeartbeats 2000000 in
set_option maxRecDepth 100000 in
theorem poke_walk (h : Has o w w (Dk db a)) (x : ByteArray) (k : Int) (c : UInt8) :
    Calls Try.prog 47 #[ptr db, .string x, .int .i64 k, byteV c] w fun e w' => e = .returned (.int .i64 (a.poke x.data.toList k c).1) ∧ Has o w w' (Dk db (a.poke x.data.toList k c).2) := by
  obtain ⟨ha, L, hL⟩ := dk_open h
  have HIN := Lib.hid (isName_walk x w)
  have HX := Lib.hid h
  cases hnm : isNm x.data.toList with
  | false =>
    rw [show a.poke x.data.toList k c = (20, a) by unfold ADk.poke; rw [hnm]; rfl]
    rw [hnm] at HIN
    clear hL h ha hnm
    unfold ptr byteV
    go_enter Try.func47, Try.ntmps47
    go_wp2_with fail
    refine HIN.out.mono ?_
    rintro e w2 ⟨rfl, k2⟩
    have K2 := Lib.hid k2
    clear k2
    go_wp2_with fail
    go_ret
    exact ⟨rfl, HX.out.quiet K2.out⟩
  | true =>
    rw [hnm] at HIN
    have hsz := nm_le hnm
    change x.size ≤ maxLen at hsz
    have HL := Lib.hid hL
    have HSZ := Lib.hid hsz
    cases hf : alFind a.now x.data.toList with
    | none =>
      rw [show a.poke x.data.toList k c = (21, a) by unfold ADk.poke; rw [hnm, hf]; rfl]
      have HF := Lib.hid hf
      clear hL h ha hnm hsz hf
      unfold ptr byteV
      go_enter Try.func47, Try.ntmps47
      go_wp2_with fail
      refine HIN.out.mono ?_
      rintro e w2 ⟨rfl, k2⟩
      have hL2 := HL.out.quiet k2
      have c0 : w2.cell? ⟨db, 0, none⟩ = some (.map (some L.mb)) := (dkl_cell hL2 0 (by omega)).1
      have hlk := (dkl_now hL2).look x HSZ.out
      rw [dirV_find, HF.out] at hlk
      simp only [Option.map_none, Option.getD_none] at hlk
      have K2 := Lib.hid k2
      clear k2 hL2
      go_wp2_with fail
      go_ret
      exact ⟨rfl, HX.out.quiet K2.out⟩
    | some fi =>
      have HF := Lib.hid hf
      have HLT := Lib.hid (ha.now.ids _ (alFind_mem hf))
      have HP : Hid (a.poke x.data.toList k c = if k < 0 ∨ ((a.file fi).b.length : Int) ≤ k then (2, a) else (0, { a with fs := a.fs.set fi ⟨(a.file fi).b.set k.toNat c, (a.file fi).sy⟩ })) := Lib.hid (by unfold ADk.poke; rw [hnm, hf]; rfl)
      have HOK2 := Lib.hid (a.poke_ok ha x.data.toList k c)
      clear hL h ha hnm hsz hf
      unfold ptr
      by_cases hk0 : k < 0
      · rw [HP.out, if_pos (.inl hk0)]
        have d1 : decide (k < 0) = true := decide_eq_true hk0
        have HK0 := Lib.hid hk0
        clear hk0
        unfold byteV
        go_enter Try.func47, Try.ntmps47
        go_wp2_with fail
        refine HIN.out.mono ?_
        rintro e w2 ⟨rfl, k2⟩
        have hL2 := HL.out.quiet k2
        have c0 : w2.cell? ⟨db, 0, none⟩ = some (.map (some L.mb)) := (dkl_cell hL2 0 (by omega)).1
        have hlk := (dkl_now hL2).look x HSZ.out
        rw [dirV_find, HF.out] at hlk
        simp only [Option.map_some, Option.getD_some, ptr] at hlk
        have K2 := Lib.hid k2
        clear k2 hL2
        go_wp2_with fail
        go_ret
        exact ⟨rfl, HX.out.quiet K2.out⟩
      · have d1 : decide (k < 0) = false := decide_eq_false hk0
        by_cases hk1 : ((a.file fi).b.length : Int) ≤ k
        · rw [HP.out, if_pos (.inr hk1)]
          have HK0 := Lib.hid hk0
          have HK1 := Lib.hid hk1
          clear hk0 hk1
          unfold byteV
          go_enter Try.func47, Try.ntmps47
          go_wp2_with fail
          refine HIN.out.mono ?_
          rintro e w2 ⟨rfl, k2⟩
          have hL2 := HL.out.quiet k2
          have c0 : w2.cell? ⟨db, 0, none⟩ = some (.map (some L.mb)) := (dkl_cell hL2 0 (by omega)).1
          have hlk := (dkl_now hL2).look x HSZ.out
          rw [dirV_find, HF.out] at hlk
          simp only [Option.map_some, Option.getD_some, ptr] at hlk
          obtain ⟨o4, hF, _⟩ := dkl_file hL2 HLT.out
          obtain ⟨e0, _, _, _, ⟨p, cp, hv⟩, _⟩ := file_at hF
          rw [hv] at e0
          have d2 : decide (((a.file fi).b.length : Int) ≤ k) = true := decide_eq_true HK1.out
          have K2 := Lib.hid k2
          clear k2 hL2 hF hv
          generalize (a.file fi).b.length = m at *
          go_wp2_with fail
          go_ret
          exact ⟨rfl, HX.out.quiet K2.out⟩
        · have HE := Lib.hid (HP.out.trans (if_neg (fun h => h.elim hk0 hk1)))
          have HK0 := Lib.hid hk0
          have HK1 := Lib.hid hk1
          obtain ⟨n, rfl⟩ : ∃ n : Nat, k = n := ⟨k.toNat, by omega⟩
          have hn : n < (a.file fi).b.length := by omega
          clear hk0 hk1 HP
          unfold byteV
          go_enter Try.func47, Try.ntmps47
          go_wp2_with fail
          refine HIN.out.mono ?_
          rintro e w2 ⟨rfl, k2⟩
          have hL2 := HL.out.quiet k2
          have c0 : w2.cell? ⟨db, 0, none⟩ = some (.map (some L.mb)) := (dkl_cell hL2 0 (by omega)).1
          have hlk := (dkl_now hL2).look x HSZ.out
          rw [dirV_find, HF.out] at hlk
          simp only [Option.map_some, Option.getD_some, ptr] at hlk
          obtain ⟨o4, hF, back⟩ := dkl_file hL2 HLT.out
          obtain ⟨e0, _, _, _, _, hrow⟩ := file_at hF
          obtain ⟨g, cap, hv, hcap, _, _, hfz, hcl⟩ := row_out hrow (by omega)
          rw [hv] at e0 hF hrow
          have hD := back _ _ _ (file_put hF n hn c)
          have hcn : w2.cell? ⟨g, n, none⟩ = some (byteV ((a.file fi).b[n]'hn)) := hcl n _ (by simp [bytesV, hn])
          have hfn := hfz n
          have HD := Lib.hid hD
          have d2 : decide (((a.file fi).b.length : Int) ≤ (n : Int)) = false := by simp; omega
          have d3 : decide (n < (a.file fi).b.length) = true := decide_eq_true hn
          unfold byteV at hcn
          have K2 := Lib.hid k2
          clear k2 hL2 hF hv hrow hcl hfz back hD
          go_wp2_with fail
          go_ret
          rw [HE.out] at HOK2 ⊢
          exact ⟨rfl, dk_shut HOK2.out _ HD.out⟩

end Go.Proofs.Ytbankfdgoolbdaa
