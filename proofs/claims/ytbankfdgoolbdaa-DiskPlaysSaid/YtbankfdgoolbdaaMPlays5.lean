/- Crash walked.
Append walked.
What a call of a disk asks of bytes that lie elsewhere; two parts, the left one called. Nothing is claimed of a program here.
The document's example, walked. -/
import Derived.Test.YtbankfdgoolbdaaMPlays4
import Derived.Deep.RegionHeld3
import Derived.Laws.IdiomStrings
namespace Go.Proofs.Ytbankfdgoolbdaa
open Go Go.RowKit Go.Lib Go.Maps
set_option linter.unusedVariables false
variable {o : List Nat} {w0 w w' w1 w3 w4 w5 : World} {db : Nat} {a : ADk} {L : DLay}

theorem rowSliceLe {e : TypeId} {v : Value} {n : Nat} {xs : List Value} (h : w.ownsRow 0 e 1 v n xs) : ∃ p c, v = .slice p n c ∧ n ≤ c ∧ ∀ i u, i < n → xs[i]? = some u → ∃ g, p = some ⟨g, 0, none⟩ ∧ g < w.heap.size ∧ w.cell? ⟨g, i, none⟩ = some u := by
  rcases row_val h with ⟨rfl, h0⟩ | ⟨g, cap, rfl, h1, _, hg, _, hc⟩
  · exact ⟨_, _, by rw [h0], by omega, fun i u hi => by omega⟩
  · exact ⟨_, _, rfl, h1, fun i u _ hu => ⟨g, rfl, hg, hc i u hu⟩⟩

theorem xor_byte (b : UInt8) : bits BinOp.xor IntKind.u8 (b.toNat : Int) 255 = ((b ^^^ 255).toNat : Int) := by
  have h : ∀ n : Nat, n < 256 → bits BinOp.xor IntKind.u8 (n : Int) 255 = (((UInt8.ofNat n) ^^^ 255).toNat : Int) := by decide +kernel
  have := h b.toNat b.toNat_lt
  rwa [UInt8.ofNat_toNat] at this

theorem BytesAt.of_heap {v : Value} {b : List UInt8} (h : BytesAt w v b) (e : w'.heap = w.heap) : BytesAt w' v b := by
  obtain ⟨p, c, h1, h2, h3, h4⟩ := h.out
  refine ⟨p, c, h1, h2, h3, fun x hx => ⟨(h4 x hx).1, fun j u hj => ?_⟩⟩
  have := (h4 x hx).2 j u hj
  simp only [World.cell?] at this ⊢
  rw [e]
  exact this

theorem bytesAt_pre {v : Value} {b : List UInt8} (h : w.ownsRow 0 5 1 v b.length (bytesV b)) : ∃ p c, v = .slice p b.length c ∧ b.length ≤ c ∧ ∀ m, m ≤ b.length → BytesAt w (.slice p m c) (b.take m) := by
  rcases row_val h with ⟨rfl, h0⟩ | ⟨g, cap, rfl, h1, h2, h3, h4, h5⟩
  · refine ⟨none, 0, by rw [h0], by omega, fun m hm => ⟨none, 0, by rw [List.length_take]; congr 1; omega, by rw [List.length_take]; omega, fun _ => ⟨by rw [List.length_take]; omega, rfl⟩, fun x hx => by cases hx⟩⟩
  · refine ⟨_, cap, rfl, h1, fun m hm => ⟨_, cap, by rw [List.length_take]; congr 1; omega, by rw [List.length_take]; omega, (fun e => by cases e), fun x hx => ?_⟩⟩
    cases hx
    refine ⟨rfl, fun j u hj => ?_⟩
    rw [addr0]
    refine h5 j u ?_
    unfold bytesV at hj ⊢
    rw [List.getElem?_map] at hj ⊢
    have hjm : j < m := by
      cases hq : (b.take m)[j]? with
      | none => rw [hq] at hj; cases hj
      | some q => have := (List.getElem?_eq_some_iff.1 hq).1; rw [List.length_take] at this; omega
    rwa [List.getElem?_take_of_lt hjm] at hj

theorem dirOk_len {l : Dir} (h : DirOk a l) : l.length < maxLen := by
  have h1 := h.len
  have : (64 : Nat) < maxLen := by decide
  omega

theorem clamp_eq (x : Int) (n : Nat) : min (max x 0) (n : Int) = (clamp x n : Int) := by
  unfold clamp
  omega

theorem key_inv (key : Value) (kl : Lit) (h : keyOf Try.prog 9 key = some kl) : ∃ x : ByteArray, key = .string x := by
  obtain ⟨s, h1, _⟩ := Maps.keyOf_str Try.underlying9 h
  exact ⟨_, h1⟩

theorem left_has (l : Dir) (ad : Nat → Nat) (j : Nat) (hj : j < l.length) : Maps.has (dmap (dirV ad l)) (.string (nmAt l j)) = true := by
  rw [has_key]
  unfold dirV alMap
  rw [List.any_map, List.any_eq_true]
  refine ⟨l[j], List.getElem_mem hj, ?_⟩
  unfold nmAt
  rw [List.getD_eq_getElem?_getD, List.getElem?_eq_getElem hj]
  simp

def fateF (keep dirs tear : Int) : Nat → Value
  | 0 => .int .i64 keep
  | 1 => .int .i64 dirs
  | _ => .int .i64 tear

theorem dkl_old (h : Has o w0 w (DkL db a L)) : MapAt w L.ob (dirV L.addr a.old) := by
  obtain ⟨o', h', _⟩ := h.dkOld
  exact h'.mapAt

theorem dkl_log (h : Has o w0 w (DkL db a L)) : w.ownsRow 0 68 1 L.lv a.log.length (logV L a.log) := by
  obtain ⟨o', ⟨_, ⟨hr, _⟩, _⟩, _⟩ := h.dkLog
  have e : (logV L a.log).length = a.log.length := by simp [logV]
  rw [e] at hr
  exact hr

set_option maxHeartbeats 4000000 in
set_option maxRecDepth 100000 in
theorem crash_walk (h : Has o w0 w (Dk db a)) (keep dirs tear : Int) :
    Calls Try.prog 17 #[ptr db, .agg #[.int .i64 keep, .int .i64 dirs, .int .i64 tear]] w fun e w' => ∃ db2, e = .returned (ptr db2) ∧ Has [] w w' (Dk db2 (a.crash keep dirs tear)) := by
  obtain ⟨ha, L, hL⟩ := dk_open h
  have hF := Has.madeBlk (w := w) #[.int .i64 keep, .int .i64 dirs, .int .i64 tear] 29 (fateF keep dirs tear) 3 rfl (by
    intro i hi
    match i with
    | 0 | 1 | 2 => rfl
    | i + 3 => omega)
  have hLa := hL.quiet hF.keeps
  have HC := Lib.hid (clone_walk (dkl_old hLa))
  have c1 : (w.alloc (.cells #[.int .i64 keep, .int .i64 dirs, .int .i64 tear] 29)).cell? ⟨db, 1, none⟩ = some (.map (some L.ob)) := (dkl_cell hLa 1 (by omega)).1
  obtain ⟨lp, lc, hlv, hlc, _⟩ := rowSliceLe (dkl_log hL)
  have hk1 : clamp dirs a.log.length ≤ lc := Nat.le_trans (Nat.min_le_right _ _) hlc
  have HF := Lib.hid hF
  have HL := Lib.hid hL
  have HLV := Lib.hid hlv
  clear h hL hF hLa hlv
  unfold ptr
  go_enter Try.func17, Try.ntmps17
  go_wp2_with fail
  refine HC.out.mono ?_
  rintro e w1 ⟨rfl, h1⟩
  have hB1 := HF.out.beside h1
  have hL1 := HL.out.quiet hB1.keeps
  have c2 : w1.cell? ⟨db, 2, none⟩ = some L.lv := (dkl_cell hL1 2 (by omega)).1
  rw [HLV.out] at c2
  obtain ⟨_, h2, _⟩ := hB1.left
  have e1 : w1.cell? ⟨w.heap.size, 1, none⟩ = some (.int .i64 dirs) := (h2.blkAt (i := 1) (by omega)).1
  have HB1 := Lib.hid hB1
  have hsz : (w.alloc (.cells #[.int .i64 keep, .int .i64 dirs, .int .i64 tear] 29)).heap.size = w.heap.size + 1 := by simp
  rw [hsz] at HB1 ⊢
  have hcl := clamp_eq dirs a.log.length
  obtain ⟨k, hk⟩ : ∃ k, clamp dirs a.log.length = k := ⟨_, rfl⟩
  rw [hk] at hk1 hcl
  have HK := Lib.hid hk
  clear hk
  clear h1 hB1 hL1 h2 c1 HC hsz
  go_wp2_with fail
  go_region
  have HB2 := Lib.hid (HB1.out.quiet ((Kept.refl [] w1).drewN 1))
  change Hid (Has [] w w1.drew _) at HB2
  have HA := Lib.hid ha
  have hlg : a.log.length ≤ 65536 := Nat.le_trans ha.loglen ha.ops
  have hkl : k ≤ a.log.length := by rw [← HK.out]; exact Nat.min_le_right _ _
  clear HB1 c2 e1 hcl ha
  generalize w1.drew = w2 at *
  go_wp2_with fail
  go_loopg [7, 36] k (fun kk fv iv wr => ∃ (i : Nat) (l : Dir), i ≤ k ∧ kk = k - i ∧ iv = .int .i64 i ∧ runLog a.old (a.log.take i) = some l ∧ Has [] w wr ((Part.blk w.heap.size 3 29 (fateF keep dirs tear)).sep (.map (w.heap.size + 1) (dirV L.addr l))))
  case atStart => exact ⟨0, a.old, Nat.zero_le _, rfl, rfl, rfl, HB2.out⟩
  case round =>
    obtain ⟨i, l, hi, hkk, rfl, hrl, hW⟩ := hrel
    have HKK := Lib.hid hkk
    have HRL := Lib.hid hrl
    clear hkk HB2
    by_cases hlt : i < k
    · have d1 : decide ((i : Int) < (k : Int)) = true := by simp; omega
      have d1' : decide (i < k) = true := by simp; omega
      have hLr := HL.out.quiet hW.keeps
      have hil : i < a.log.length := by omega
      obtain ⟨c, hc⟩ : ∃ c, a.log[i]? = some c := ⟨_, List.getElem?_eq_getElem hil⟩
      obtain ⟨q1, q2, hlv2, _, hcl⟩ := rowSliceLe (dkl_log hLr)
      obtain ⟨g, hp, hg, hcell⟩ := hcl i (cloV (L.b1 i) (L.b2 i) c) hil (by unfold logV; rw [List.getElem?_mapIdx, hc]; rfl)
      rw [HLV.out] at hlv2
      have hq : lp = q1 := by injection hlv2
      rw [← hq] at hp
      clear hq hcl hlv2
      obtain ⟨l', hl', hd'⟩ := HA.out.prefix (i + 1)
      obtain ⟨l2, hl2, hd2⟩ := HA.out.prefix i
      rw [hrl] at hl2
      obtain rfl : l = l2 := Option.some.inj hl2
      have hon : c.on l = some l' := by rw [← runLog_snoc hrl hc]; exact hl'
      obtain ⟨_, hbx⟩ := hLr.dkBox hil
      have hbx2 := boxAt_of hbx
      rw [List.getD_eq_getElem?_getD, hc] at hbx2
      obtain ⟨o8, hM8, _, _, back8⟩ := hW.right
      have hcw := clo_walk c (L.b1 i) (L.b2 i) hM8 hon (HA.out.named c (List.mem_of_getElem? hc)) (dirOk_len hd2) hbx2
      have HCW := Lib.hid (hcw.mono (R' := fun e w' => e = .returned (.tuple #[]) ∧ Has [] w w' ((Part.blk w.heap.size 3 29 (fateF keep dirs tear)).sep (.map (w.heap.size + 1) (dirV L.addr l')))) (by
        rintro e w' ⟨rfl, h'⟩
        exact ⟨rfl, back8 _ _ h'⟩))
      have HL' := Lib.hid hl'
      have hce := clo_enters c
      rw [cloV_eq] at hcell
      subst hp
      obtain ⟨cf, hcf⟩ : ∃ cf, cloF c = cf := ⟨_, rfl⟩
      obtain ⟨cc, hcc⟩ : ∃ cc, cloCap (L.b1 i) (L.b2 i) c = cc := ⟨_, rfl⟩
      rw [hcf] at hce HCW hcell
      rw [hcc] at HCW hcell
      clear hcf hcc hW hLr hc hl' hd' hl2 hd2 hon hbx hbx2 hM8 back8 hcw hrl
      go_wp2_with fail
      refine HCW.out.mono ?_
      rintro e w6 ⟨rfl, h6⟩
      have H6 := Lib.hid h6
      clear h6 HCW
      go_wp2_with fail
      go_roundg (k - (i + 1))
      case measure => rw [HKK.out]; omega
      case rel => exact ⟨i + 1, l', by omega, rfl, by go_num, HL'.out, H6.out⟩
    · have d1 : decide ((i : Int) < (k : Int)) = false := by simp; omega
      have d1' : decide (i < k) = false := by simp; omega
      obtain rfl : i = k := by omega
      have HNW := Lib.hid ((new_walk wr).mono (R' := fun e w' => ∃ db2, e = .returned (ptr db2) ∧ Has [] w w' (((Part.blk w.heap.size 3 29 (fateF keep dirs tear)).sep (.map (w.heap.size + 1) (dirV L.addr l))).sep (Dk db2 ADk.new))) (by
        rintro e w' ⟨db2, rfl, _, h'⟩
        exact ⟨db2, rfl, hW.beside h'⟩))
      clear hW hrl
      go_wp2_with fail
      refine HNW.out.mono ?_
      rintro e w5 ⟨db2, rfl, h5⟩
      obtain ⟨o6, hM, _, _, back⟩ := h5.fst.right
      have hown := hM.mapAt
      have H5 := Lib.hid h5
      clear HNW h5 hM back
      unfold ptr
      go_wp2_with (first | (at_range; refine wpList_range_own _ rfl _ 60 rfl 9 69 strKeyed Try.underlying60 anyElem (w.heap.size + 1) (dirV L.addr l).length (dmap (dirV L.addr l)) rfl hown ?_; intro w6 hrg hg hs) | fail)
      go_frame
      have hb1 : ∃ L2, Has [] w w6 (((Part.blk w.heap.size 3 29 (fateF keep dirs tear)).sep (.rng (w.heap.size + 1) w5.heap.size (dirV L.addr l) (Maps.has (dmap (dirV L.addr l))) (Maps.size (dmap (dirV L.addr l))))).sep
          (CrO db2 l (fun j => (a.file (l.getD j ([], 0)).2).left keep tear) (fun t => Maps.has (dmap (dirV L.addr l)) (.string t)) L2)) := by
        obtain ⟨o1, h1, _, _, b1⟩ := H5.out.left
        obtain ⟨o2, h2, _, _, b2⟩ := h1.right
        have h3 := b1 _ _ (b2 _ _ (h2.rngBegin hrg hg))
        obtain ⟨o3, h4, _, _, b3⟩ := h3.right
        obtain ⟨L2, h5⟩ := cro_begin (l := l) (x := fun j => (a.file (l.getD j ([], 0)).2).left keep tear) (left := fun t => Maps.has (dmap (dirV L.addr l)) (.string t)) h4 (left_has l L.addr)
        exact ⟨L2, b3 _ _ h5⟩
      have HB6 := Lib.hid hb1
      clear hb1 hrg hg hs hown H5
      generalize w5.heap.size = rb at *
      go_loopg [9] (Maps.size (dmap (dirV L.addr l))) (fun cnt v9 wr => ∃ (lf : Lit → Bool) (L2 : DLay), Has [] w wr (((Part.blk w.heap.size 3 29 (fateF keep dirs tear)).sep (.rng (w.heap.size + 1) rb (dirV L.addr l) lf cnt)).sep
          (CrO db2 l (fun j => (a.file (l.getD j ([], 0)).2).left keep tear) (fun t => lf (.string t)) L2)))
      case atStart =>
        obtain ⟨L2, h⟩ := HB6.out
        exact ⟨_, L2, h⟩
      case round =>
        obtain ⟨lf, L2, hR⟩ := hrel
        obtain ⟨o7, h7, _, _, b7⟩ := hR.left
        obtain ⟨o8, h8, _, _, b8⟩ := h7.right
        have hrg := h8.rngAt
        have HR := Lib.hid hR
        clear hR h7 h8 b7 b8 HB6
        go_wp2_with (first | (at_next; refine wpList_next_ranges _ rfl _ rfl 9 strKeyed anyElem (fun x : ByteArray => Value.string x) (fun v : Value => v) key_inv (fun v _ _ => ⟨v, rfl⟩) (w.heap.size + 1) rb (dirV L.addr l).length (dmap (dirV L.addr l)) _ _ rfl hrg ?_ ?_) | fail)
        · intro hc0 hl0
          obtain ⟨oR, hRr, _, _, backR⟩ := HR.out.right
          have c0 : wr.cell? ⟨db2, 0, none⟩ = some (.map (some L2.mb)) := (cro_cell hRr 0 (by omega)).1
          have f1 := (cro_cell hRr 1 (by omega)).2
          have HC3 := Lib.hid ((clone_walk (cro_now hRr)).mono (R' := fun e w' => e = .returned (.map (some wr.heap.size)) ∧ w'.cell? ⟨db2, 1, none⟩ = some (.map (some L2.ob)) ∧ w'.frozen? ⟨db2, 1, none⟩ = false ∧ Has [] w (w'.setCell ⟨db2, 1, none⟩ (.map (some wr.heap.size))) (Dk db2 (a.crash keep dirs tear))) (by
            rintro e w' ⟨rfl, h'⟩
            refine ⟨rfl, (cro_cell (hRr.quiet h'.keeps) 1 (by omega)).1, (cro_cell (hRr.quiet h'.keeps) 1 (by omega)).2, ?_⟩
            have hE := cro_end hRr (fun j _ => hl0 (Lit.string (nmAt l j))) h' (l.map fun p => (a.file p.2).left keep tear) (by simp) (fun j hj => by
              simp only [List.getD_eq_getElem?_getD, List.getElem?_map, List.getElem?_eq_getElem hj, Option.map_some, Option.getD_some])
            have e9 : a.crash keep dirs tear = ⟨l.map fun p => (a.file p.2).left keep tear, numbered l, numbered l, [], 0, -1, false⟩ := by
              unfold ADk.crash numbered
              have h9 : a.log.take dirs.toNat = a.log.take i := by
                rw [← HK.out]
                unfold clamp
                rw [List.take_eq_take_min]
              rw [h9, HRL.out]
              rfl
            have hD := dk_shut (a := a.crash keep dirs tear) (a.crash_ok HA.out keep dirs tear) { L2 with ob := wr.heap.size } (by rw [e9]; exact hE)
            exact (backR _ _ hD).swap.fst))
          clear hRr backR hrg HR hl0
          go_wp2_with fail
          refine HC3.out.mono ?_
          rintro e w11 ⟨rfl, c11, f11, h11⟩
          have H11 := Lib.hid h11
          clear h11 HC3
          go_wp2_with fail
          go_ret
          exact ⟨db2, rfl, H11.out⟩
        · intro x c kl y yp w7 cnt' hkey hlk hcy hat hrg7 hlt7 hg7 hs7 hen
          obtain ⟨rfl, hfc, hxs⟩ := rng_entry hkey hcy hat
          rw [dirV_find, Option.map_eq_some_iff] at hfc
          obtain ⟨fi, hfi, rfl⟩ := hfc
          obtain ⟨j, hj⟩ := List.mem_iff_getElem?.1 (alFind_mem hfi)
          have hR7 : Has [] w w7 (((Part.blk w.heap.size 3 29 (fateF keep dirs tear)).sep (.rng (w.heap.size + 1) rb (dirV L.addr l) (fun z => lf z && !z.sameKey (.string x.data.toList)) cnt')).sep
              (CrO db2 l (fun j => (a.file (l.getD j ([], 0)).2).left keep tear) (fun t => lf (.string t)) L2)) := by
            obtain ⟨o7, h7, _, _, b7⟩ := HR.out.left
            obtain ⟨o8, h8, _, _, b8⟩ := h7.right
            exact b7 _ _ (b8 _ _ (h8.rngNext hrg7 hg7))
          obtain ⟨ld, hld, hdo⟩ := HA.out.prefix i
          rw [HRL.out] at hld
          obtain rfl : l = ld := Option.some.inj hld
          have hfil : fi < a.fs.length := hdo.ids _ (alFind_mem hfi)
          have hL7 := HL.out.quiet hR7.keeps
          obtain ⟨o9, hF9, _⟩ := dkl_file hL7 hfil
          obtain ⟨g0, g1, _, _, _, hrow⟩ := file_at hF9
          obtain ⟨p, pc, hbv, hpc, hpre⟩ := bytesAt_pre hrow
          rw [hbv] at g0
          have hfok := a.file_ok HA.out fi
          obtain ⟨_, hf0, _⟩ := hR7.fst.left
          have e0 : w7.cell? ⟨w.heap.size, 0, none⟩ = some (.int .i64 keep) := (hf0.blkAt (i := 0) (by omega)).1
          have e2 : w7.cell? ⟨w.heap.size, 2, none⟩ = some (.int .i64 tear) := (hf0.blkAt (i := 2) (by omega)).1
          have hcl := clamp_eq keep ((a.file fi).b.length - (a.file fi).sy)
          rw [Int.ofNat_sub hfok.2] at hcl
          obtain ⟨kp, hkp⟩ : ∃ kp, clamp keep ((a.file fi).b.length - (a.file fi).sy) = kp := ⟨_, rfl⟩
          rw [hkp] at hcl
          have hkl2 : (a.file fi).sy + kp ≤ (a.file fi).b.length := by
            have : kp ≤ (a.file fi).b.length - (a.file fi).sy := by rw [← hkp]; exact Nat.min_le_right _ _
            omega
          have HR7 := Lib.hid hR7
          have HJ := Lib.hid hj
          have HDO := Lib.hid hdo
          have HKP := Lib.hid hkp
          have HFOK := Lib.hid hfok
          have HFI := Lib.hid hfi
          have hbl : ((a.file fi).b.take ((a.file fi).sy + kp)).length = (a.file fi).sy + kp := by rw [List.length_take]; omega
          have HCL := Lib.hid (fun (W : World) (hW : W.heap = w7.heap) => bytes_clone ((hpre _ hkl2).of_heap hW) (by rw [hbl]; have := hfok.1; omega))
          rw [hbl] at HCL
          clear hbl
          clear hrg hrg7 hg7 hs7 hat hcy hlk hkey hld hdo hL7 hF9 hrow hR7 hf0 HR hj hkp hfi hpre hbv
          have hlen9 := hfok.1
          clear hfok
          unfold ptr at hen ⊢
          generalize hN1 : (a.file fi).b.length = n1 at *
          generalize hN2 : (a.file fi).sy = n2 at *
          have HN1 := Lib.hid hN1
          have HN2 := Lib.hid hN2
          clear hN1 hN2
          have hsub : n2 ≤ n1 := by omega
          obtain ⟨nk, hnk⟩ : ∃ nk, n2 + kp = nk := ⟨_, rfl⟩
          rw [hnk] at HCL hkl2
          have q0 : (n2 : Int) + (kp : Int) = (nk : Int) := by omega
          have q1 : IntKind.i64.wrap ((n2 : Int) + (kp : Int)) = (nk : Int) := by rw [q0]; exact IntWalk.i64_in _ (by omega)
          have q2 : (0 : Int) ≤ (nk : Int) := by omega
          have q3 : (nk : Int) ≤ (pc : Int) := by omega
          have q4 : nk ≤ pc := by omega
          have q5 : IntKind.i64.wrap (nk : Int) = (nk : Int) := IntWalk.i64_in _ (by omega)
          have HNK := Lib.hid hnk
          clear hnk
          go_wp2_with fail
          go_region
          go_wp2_with fail
          go_region_held3 (fun w' => w'.cell? ⟨L.addr fi, 0, none⟩ = some (.slice p n1 pc) ∧ w'.cell? ⟨L.addr fi, 1, none⟩ = some (.int .i64 n2))
            (first | exact ⟨g0, g1⟩ | exact ⟨k0, k1⟩ | go_keep)
            (first | (go_at_call 37
                      refine (HCL.out w7.drew.drew rfl).mono ?_
                      rintro e w8 ⟨v', rfl, h8⟩
                      have hk8 := h8.from ((Kept.refl [] w7).drewN 2)
                      have k0 := hk8.keeps.cell g0 (by simp)
                      have k1 := hk8.keeps.cell g1 (by simp)
                      have H8 := Lib.hid hk8
                      clear h8 hk8))
          have he2 : w8.cell? ⟨w.heap.size, 2, none⟩ = some (.int .i64 tear) := H8.out.keeps.cell e2 (by simp)
          have hct := clamp_eq tear kp
          obtain ⟨tt, htt⟩ : ∃ tt, clamp tear kp = tt := ⟨_, rfl⟩
          rw [htt] at hct
          have htl : tt ≤ nk := by
            have h1 : clamp tear kp ≤ kp := Nat.min_le_right _ _
            have h2 := HNK.out
            omega
          have HTT := Lib.hid htt
          have hrow8 : w8.ownsRow 0 5 1 v' nk (bytesV ((a.file fi).b.take nk)) := by
            obtain ⟨_, ⟨hr, _⟩, _⟩ := H8.out
            exact hr
          have hclen : ((a.file fi).b.take nk).length = nk := by
            rw [List.length_take]; have := HN1.out; omega
          have HTR0 := Lib.hid (show Has [] w7 w8 (.row 5 1 v' nk (bytesV (torn ((a.file fi).b.take nk) 0))) by rw [torn_zero]; exact H8.out)
          obtain ⟨vp, vc, hvv⟩ := rowSlice hrow8
          subst hvv
          have HCLEN := Lib.hid hclen
          clear htt hrow8 hclen k0 k1 q0 q1 q2 q3 q4 q5 hcl H8
          generalize hcb : (a.file fi).b.take nk = cb at *
          have HCB := Lib.hid hcb
          clear hcb
          go_wp2_with fail
          go_loopg [13, 83] tt (fun kk v13 iv wq => ∃ m : Nat, m ≤ tt ∧ kk = tt - m ∧ iv = .int .i64 m ∧ Has [] w7 wq (.row 5 1 (.slice vp nk vc) nk (bytesV (torn cb m))))
          case atStart => exact ⟨0, Nat.zero_le _, rfl, rfl, HTR0.out⟩
          case round =>
            obtain ⟨m, hm, hkk, rfl, hT⟩ := hrel
            have HK3 := Lib.hid hkk
            clear hkk HTR0
            by_cases hlt3 : m < tt
            · have d3 : decide ((m : Int) < (tt : Int)) = true := by simp; omega
              have d3' : decide (m < tt) = true := by simp; omega
              have hmn : m < cb.length := by rw [HCLEN.out]; omega
              obtain ⟨_, ⟨hrT, _⟩, _⟩ := id hT
              obtain ⟨gg, gc, hvv2, _, _, _, hfz, hcl2⟩ := row_out hrT (by omega)
              obtain ⟨hvp, rfl⟩ : vp = some ⟨gg, 0, none⟩ ∧ vc = gc := by
                injection hvv2 with q1 q2 q3
                exact ⟨q1, q3⟩
              subst hvp
              have hcx : wr.cell? ⟨gg, nk - 1 - m, none⟩ = some (byteV (cb.getD (nk - 1 - m) 0)) := hcl2 _ _ (by
                unfold bytesV
                rw [List.getElem?_map]
                have := torn_get hmn
                rw [HCLEN.out] at this
                rw [this, List.getD_eq_getElem?_getD, List.getElem?_eq_getElem (by rw [HCLEN.out]; omega)]
                rfl)
              have hfx := hfz (nk - 1 - m)
              have hTs := hT.setRow (nk - 1 - m) (byteV (cb.getD (nk - 1 - m) 0 ^^^ 255)) (by omega)
              rw [show (bytesV (torn cb m)).set (nk - 1 - m) (byteV (cb.getD (nk - 1 - m) 0 ^^^ 255)) = bytesV (torn cb (m + 1)) by
                rw [← torn_succ hmn, HCLEN.out]; unfold bytesV; rw [List.map_set]] at hTs
              have HTs := Lib.hid hTs
              unfold byteV at hcx
              have hix : ((nk : Int) - 1 - (m : Int)) = ((nk - 1 - m : Nat) : Int) := by omega
              generalize hbq : nk - 1 - m = bq at *
              have hbl : bq < nk := by omega
              generalize cb.getD bq 0 = bb at *
              clear hT hrT hvv2 hfz hcl2 hTs hmn hbq
              have HXB := Lib.hid (xor_byte bb)
              go_wp2_with fail
              go_roundg (tt - (m + 1))
              case measure => rw [HK3.out]; omega
              case rel => exact ⟨m + 1, by omega, rfl, by go_num, by rw [HXB.out]; exact HTs.out⟩
            · have d3 : decide ((m : Int) < (tt : Int)) = false := by simp; omega
              have d3' : decide (m < tt) = false := by simp; omega
              obtain rfl : m = tt := by omega
              obtain ⟨oR, hRr, _, _, backR⟩ := HR7.out.right
              have hjl : j < l.length := (List.getElem?_eq_some_iff.1 HJ.out).1
              have hgd : l.getD j ([], 0) = (x.data.toList, fi) := by rw [List.getD_eq_getElem?_getD, HJ.out]; rfl
              have hxj : (a.file (l.getD j ([], 0)).2).left keep tear = ⟨torn cb m, nk⟩ := by
                rw [hgd]
                have h1 := left_eq (a.file fi) (by rw [HN1.out, HN2.out]; exact hsub) keep tear
                rw [HN1.out, HN2.out, HKP.out, HTT.out, HNK.out, HCB.out, HCLEN.out] at h1
                exact h1
              have htl2 : (torn cb m).length = nk := by rw [torn_len, HCLEN.out]
              have hbk := Has.madeBlk (w := wr) #[.slice vp nk vc, .int .i64 nk] 71 (fileCells (.slice vp nk vc) nk) 2 rfl (by
                intro i hi
                match i with
                | 0 | 1 => rfl
                | i + 2 => omega)
              have hB : Has [] w7 (wr.alloc (.cells #[.slice vp nk vc, .int .i64 nk] 71)) (fileP wr.heap.size (.slice vp nk vc) ((fun j => (a.file (l.getD j ([], 0)).2).left keep tear) j)) := by
                simp only [hxj]
                unfold fileP
                simp only [htl2]
                exact (hT.beside hbk).swap
              obtain ⟨u0, w10, hrun10, L3, hN⟩ := cro_put hRr HDO.out.rise HDO.out.len hjl hB x (by unfold nmAt; rw [hgd]) hxs
              have u0b : wr.cell? ⟨db2, 0, none⟩ = some (.map (some L2.mb)) := (cro_cell (hRr.quiet hT.keeps) 0 (by omega)).1
              have H10 := Lib.hid (backR _ _ hN)
              clear hRr backR hgd hxj htl2 hbk hB hN hT
              unfold ptr at hrun10
              go_wp2_with fail
              go_roundg cnt'
              case measure => exact hlt7
              case rel => exact ⟨fun z => lf z && !z.sameKey (Lit.string x.data.toList), L3, H10.out⟩

end Go.Proofs.Ytbankfdgoolbdaa
namespace Go.Proofs.Ytbankfdgoolbdaa
open Go Go.RowKit Go.Lib
set_option linter.unusedVariables false
variable {o : List Nat} {w0 w w' w1 w3 w4 w5 : World} {db : Nat} {a : ADk} {L : DLay}

theorem MapAt.lookA {b : Nat} {l : List (Nm × Value)} (h : MapAt w b l) (s : ByteArray) (hs : s.size ≤ maxLen) (ob : Obj) :
    (Instr.lookup 60 (.map (some b)) (.string s) false).run Try.prog (w.alloc ob) = .ok ((alFind l s.data.toList).getD (.pointer none)) (w.alloc ob) :=
  (h.of_heap (w' := w.alloc ob) (Below.heap_alloc w ob b h.lt)).look s hs

set_option maxHeartbeats 20000000 in
set_option maxRecDepth 100000 in
theorem append_walk (h : Has o w w (Dk db a)) (x : ByteArray) (bv : Value) (bs : List UInt8) (hB : ∀ w', Kept o w w' → BytesX w' bv bs) :
    Calls Try.prog 14 #[ptr db, .string x, bv] w fun e w' => e = .returned (.int .i64 (a.append x.data.toList bs).1) ∧ Has o w w' (Dk db (a.append x.data.toList bs).2) := by
  have HR := Lib.hid (refused_beside (h.beside (made_box w (.string x) 9)) false [x] (by simp) (by simp) 9)
  have HOK := Lib.hid (dk_open h).1
  have hsz : (w.alloc (.cells #[.string x] 9)).heap.size = w.heap.size + 1 := by simp
  rw [hsz] at HR
  obtain ⟨bp, bc, hbv, _⟩ := (hB w (Kept.refl _ _)).out
  have HB := Lib.hid hB
  have HBV := Lib.hid hbv
  rw [hbv]
  clear h hB hbv hsz
  unfold ptr at *
  go_enter Try.func14, Try.ntmps14
  go_wp2_with fail
  refine HR.out.mono ?_
  rintro e w3 ⟨rfl, h3⟩
  clear HR
  have c1 : w3.cell? ⟨w.heap.size, 0, none⟩ = some (.string x) := by
    obtain ⟨o4, h4, _⟩ := h3.right
    exact (h4.blkAt (by omega)).1
  by_cases hbad : a.powered.bad false [x.data.toList] = 0
  · obtain ⟨_, hnm, _, hops⟩ := bad_off hbad
    simp only [List.all_cons, List.all_nil, Bool.and_true] at hnm
    have hszx := nm_le hnm
    change x.size ≤ maxLen at hszx
    have HNM := Lib.hid hnm
    have HOP := Lib.hid hops
    have HBAD := Lib.hid hbad
    obtain ⟨o4, h4, _, _, b4⟩ := h3.left
    obtain ⟨hok, L, hL⟩ := dk_open h4
    have H3 := Lib.hid (b4 _ _ hL)
    have HPO := Lib.hid hok
    have c0 : w3.cell? ⟨db, 0, none⟩ = some (.map (some L.mb)) := (dkl_cell hL 0 (by omega)).1
    have hM := dkl_now hL
    have hb0 : ((0 : Int) != 0) = false := rfl
    simp only [List.map_cons, List.map_nil]
    rw [hbad]
    cases hf : alFind a.powered.now x.data.toList with
    | none =>
      have hlk0 := hM.lookD x hszx 1
      have hlk1 := (hM.of_heap (w' := w3.alloc (.cells #[.pointer none] 69)) (Below.heap_alloc w3 _ L.mb hM.lt)).lookD x hszx 1
      change Sem.run Try.prog _ w3.drew = .ok _ w3.drew at hlk0
      change Sem.run Try.prog _ (w3.alloc (.cells #[.pointer none] 69)).drew = .ok _ (w3.alloc (.cells #[.pointer none] 69)).drew at hlk1
      have ka : Kept [] w3 (w3.alloc (.cells #[.pointer none] 69)) := (Kept.refl _ _).alloc _
      have c1a := ka.cell c1 (by simp)
      have c0a := ka.cell c0 (by simp)
      rw [dirV_find, hf] at hlk0 hlk1
      simp only [Option.map_none, Option.getD_none] at hlk0 hlk1
      have HF := Lib.hid hf
      have H4 := Lib.hid ((H3.out.beside (made_box w3 (.pointer none) 69)).quiet ((Kept.refl [] _).drewN 1))
      change Hid (Has o w ((w3.alloc (.cells #[.pointer none] 69)).drew) _) at H4
      clear ka hf h3 h4 b4 hL hok hnm hszx hbad hops H3 hM
      go_wp2_with fail
      go_region
      all_goals (
        clear c0 c1 c0a c1a hlk0 hlk1
        obtain ⟨fb, hfb⟩ : ∃ fb, w3.heap.size = fb := ⟨_, rfl⟩
        rw [hfb] at H4 ⊢
        clear hfb
        generalize (w3.alloc (.cells #[.pointer none] 69)).drew = w4 at *
        have hD4 := H4.out.fst.fst
        have c0 : w4.cell? ⟨db, 0, none⟩ = some (.map (some L.mb)) := (dkl_cell hD4 0 (by omega)).1
        obtain ⟨o5, h5, _⟩ := H4.out.right
        obtain ⟨cf, ff, _⟩ := h5.blkAt (i := 0) (by omega)
        have h5x := Lib.hid h5
        have hlen := (dkl_now hD4).len 3
        rw [dirV_len] at hlen
        clear hD4 h5
        by_cases h64 : 64 ≤ a.powered.now.length
        · have d5 : decide (64 ≤ (a.powered.now.length : Int)) = true := by simp; omega
          have HE : Hid (a.append x.data.toList bs = (23, a.powered)) := Lib.hid (by unfold ADk.append; simp only [HBAD.out, HF.out, if_pos (Or.inl h64)]; rfl)
          clear h64
          go_wp2_with fail
          go_ret
          rw [HE.out]
          exact ⟨rfl, dk_shut HPO.out L H4.out.fst.fst⟩
        · have d5 : decide (64 ≤ (a.powered.now.length : Int)) = false := by simp; omega
          by_cases hbig : 262144 < bs.length
          · have d6 : decide (262144 < (bs.length : Int)) = true := by simp; omega
            have HE : Hid (a.append x.data.toList bs = (23, a.powered)) := Lib.hid (by unfold ADk.append; simp only [HBAD.out, HF.out, if_pos (Or.inr hbig)]; rfl)
            clear h64 hbig
            go_wp2_with fail
            go_ret
            rw [HE.out]
            exact ⟨rfl, dk_shut HPO.out L H4.out.fst.fst⟩
          · have d6 : decide (262144 < (bs.length : Int)) = false := by simp; omega
            have HE : Hid (a.append x.data.toList bs = (0, (ADk.change { a.powered with fs := a.powered.fs ++ [AFile.mk bs 0] } (.mk x.data.toList a.powered.fs.length)).did)) := Lib.hid (by unfold ADk.append; simp only [HBAD.out, HF.out, if_neg (not_or.2 ⟨h64, hbig⟩)]; rfl)
            have HBIG := Lib.hid hbig
            have H64 := Lib.hid h64
            have ka : Kept [] w4 (w4.alloc (.cells #[.slice none 0 0, .int .i64 0] 71)) := (Kept.refl _ _).alloc _
            have hfbl : fb < w4.heap.size := by
              obtain ⟨_, ⟨hbk, _⟩, _⟩ := h5x.out
              exact hbk.lt
            have cfa := ka.cell cf (by simp)
            have ffa := (ka.frozen (i := 0) hfbl (by simp)).trans ff
            have hN := app_new (s := x.data.toList) (by rw [nmV_of]; exact H4.out) HPO.out
            obtain ⟨nb, hnb⟩ : ∃ nb, w4.heap.size = nb := ⟨_, rfl⟩
            rw [hnb] at hN
            have hok2 : ({ a.powered with fs := a.powered.fs ++ [⟨[], 0⟩] } : ADk).Ok := HPO.out.files _ (by simp) fun f hf => by
              rcases List.mem_append.1 hf with hf | hf
              · exact HPO.out.fs f hf
              · simp at hf; subst hf; exact ⟨Nat.zero_le _, Nat.le_refl _⟩
            have hc := change_boxed hN hok2 (dk_len hok2) (l' := alPut a.powered.now x.data.toList a.powered.fs.length) (by
              show (if (alFind a.powered.now x.data.toList).isNone && decide (a.powered.now.length < 64) then _ else _) = _
              rw [HF.out, if_pos (by simp; omega)]) HNM.out
            have HC := Lib.hid (show Calls Try.prog 33 #[.pointer (some ⟨db, 0, none⟩), .func (.func 35) #[] #[.pointer (some ⟨fb, 0, none⟩), .pointer (some ⟨w.heap.size, 0, none⟩)]] _ _ from hc)
            unfold ptr at HC
            have HNB := Lib.hid hnb
            clear h64 hbig hN hok2 hc ka hfbl h5x hnb
            go_wp2_with fail
            rw [HNB.out]
            refine HC.out.mono ?_
            rintro e w7 ⟨rfl, L', hL1, hL2, hbx, h7⟩
            have hi7 : a.powered.fs.length < (ADk.change { a.powered with fs := a.powered.fs ++ [AFile.mk [] 0] } (.mk x.data.toList a.powered.fs.length)).fs.length := by
              show a.powered.fs.length < (a.powered.fs ++ [AFile.mk [] 0]).length
              simp
            have hfl : (ADk.change { a.powered with fs := a.powered.fs ++ [AFile.mk [] 0] } (.mk x.data.toList a.powered.fs.length)).file a.powered.fs.length = ⟨[], 0⟩ := by
              unfold ADk.file
              show (a.powered.fs ++ [AFile.mk [] 0]).getD a.powered.fs.length ⟨[], 0⟩ = _
              simp
            have had : L'.addr a.powered.fs.length = nb := by rw [hL1]; simp
            have hbvn : L'.bv a.powered.fs.length = .slice none 0 0 := by rw [hL2]; simp
            have h7d := h7.quiet ((Kept.refl [] w7).drewN 1)
            change Has o w w7.drew _ at h7d
            have hBy := HB.out _ h7d.keeps
            obtain ⟨o8, hF8, _⟩ := dkl_file h7d hi7
            have hrow := (file_at hF8).2.2.2.2.2
            rw [hfl, hbvn] at hrow
            have hd0 := (file_at hF8).1
            rw [had, hbvn] at hd0
            obtain ⟨v', w8, hrun, happ⟩ := run_append_bytes w7.drew _ bv [] bs hrow hBy (by have := HBIG.out; simp; omega)
            rw [HBV.out] at hrun
            simp only [List.nil_append] at happ
            obtain ⟨hk8, e0, z0, hD8⟩ := dkl_app (ys := bs) h7d hi7 (v' := v') (w5 := w8) (by rw [hfl, hbvn]; exact happ)
            rw [had] at e0 z0 hD8
            rw [hbvn] at e0
            rw [hfl] at hD8
            simp only [List.nil_append] at hD8
            obtain ⟨pv, cv, rfl⟩ := rowSlice happ.row
            have hfb7 : w7.cell? ⟨fb, 0, none⟩ = some (.pointer (some ⟨nb, 0, none⟩)) := by
              have := hbx.1
              simp only [if_true] at this
              exact this
            have hfb8 : w8.cell? ⟨fb, 0, none⟩ = some (.pointer (some ⟨nb, 0, none⟩)) := by
              have kk : Kept [] w7.drew w8 := (Kept.refl _ _).grown happ.grown fun b _ e => by simp [Value.ownBlock] at e
              exact kk.cell (w := w7.drew) hfb7 (by simp)
            have hd0' : w7.cell? ⟨nb, 0, none⟩ = some (.slice none 0 0) := hd0
            have hfin : ADk.did { (ADk.change { a.powered with fs := a.powered.fs ++ [AFile.mk [] 0] } (.mk x.data.toList a.powered.fs.length)) with fs := (ADk.change { a.powered with fs := a.powered.fs ++ [AFile.mk [] 0] } (.mk x.data.toList a.powered.fs.length)).fs.set a.powered.fs.length ⟨bs, 0⟩ } = (ADk.change { a.powered with fs := a.powered.fs ++ [AFile.mk bs 0] } (.mk x.data.toList a.powered.fs.length)).did := by
              unfold ADk.did ADk.change
              simp
            obtain ⟨m, hm⟩ : ∃ m, a.powered.ops = m := ⟨_, rfl⟩
            have HD9 := Lib.hid (show Has o w ((w8.setCell ⟨nb, 0, none⟩ (.slice pv bs.length cv)).setCell ⟨db, 3, none⟩ (.int .i64 ((m : Int) + 1))) _ from dkl_didN hD8 hm)
            rw [hfin] at HD9
            obtain ⟨c3, f3⟩ := dkl_cell hD8 3 (by omega)
            replace c3 : (w8.setCell ⟨nb, 0, none⟩ (.slice pv bs.length cv)).cell? ⟨db, 3, none⟩ = some (.int .i64 m) := by rw [c3, ← hm]; rfl
            have hops := HOP.out
            rw [hm] at hops
            have HOK2 := Lib.hid (a.append_ok HOK.out x.data.toList bs)
            have HK8 := Lib.hid hk8
            clear h7 h7d hF8 hrow hBy happ hD8 hk8 hfl hL1 hL2 hbvn hi7 hbx cfa ffa hfin hm
            have HST := Lib.hid hrun
            clear hrun
            go_wp2_with fail
            go_region_law (refine step_append_run rfl (.tmp 65) (.tmp 66) 27 rfl _ _ rfl rfl HST.out ?_)
            all_goals (
              go_wp2_with fail
              go_ret
              rw [HE.out] at HOK2 ⊢
              exact ⟨rfl, dk_shut HOK2.out _ HD9.out⟩))
    | some fi =>
      have hlk0 := hM.lookD x hszx 1
      have hlk1 := (hM.of_heap (w' := w3.alloc (.cells #[.pointer none] 69)) (Below.heap_alloc w3 _ L.mb hM.lt)).lookD x hszx 1
      change Sem.run Try.prog _ w3.drew = .ok _ w3.drew at hlk0
      change Sem.run Try.prog _ (w3.alloc (.cells #[.pointer none] 69)).drew = .ok _ (w3.alloc (.cells #[.pointer none] 69)).drew at hlk1
      have ka : Kept [] w3 (w3.alloc (.cells #[.pointer none] 69)) := (Kept.refl _ _).alloc _
      have c1a := ka.cell c1 (by simp)
      have c0a := ka.cell c0 (by simp)
      rw [dirV_find, hf] at hlk0 hlk1
      simp only [Option.map_some, Option.getD_some, ptr] at hlk0 hlk1
      have HF := Lib.hid hf
      have hlt : fi < a.powered.fs.length := hok.now.ids _ (alFind_mem hf)
      have HLT := Lib.hid hlt
      have HFO := Lib.hid (a.powered.file_ok hok fi)
      have H4 := Lib.hid ((H3.out.beside (made_box w3 (.pointer (some ⟨L.addr fi, 0, none⟩)) 69)).quiet ((Kept.refl [] _).drewN 1))
      change Hid (Has o w ((w3.alloc (.cells #[.pointer (some ⟨L.addr fi, 0, none⟩)] 69)).drew) _) at H4
      clear ka hf h3 h4 b4 hL hok hnm hszx hbad hops H3 hM hlt
      go_wp2_with fail
      go_region
      all_goals (
        clear c0 c1 c0a c1a hlk0 hlk1
        obtain ⟨fb, hfb⟩ : ∃ fb, w3.heap.size = fb := ⟨_, rfl⟩
        rw [hfb] at H4 ⊢
        clear hfb
        generalize (w3.alloc (.cells #[.pointer (some ⟨L.addr fi, 0, none⟩)] 69)).drew = w4 at *
        have hD4 := H4.out.fst.fst
        obtain ⟨o5, h5, _⟩ := H4.out.right
        obtain ⟨cf, ff, _⟩ := h5.blkAt (i := 0) (by omega)
        obtain ⟨o6, hF, _⟩ := dkl_file hD4 HLT.out
        obtain ⟨d0, _, _, _, ⟨p, c, hv⟩, hrow⟩ := file_at hF
        have D0 := Lib.hid hv
        rw [hv] at d0
        have HROW := Lib.hid hrow
        clear hD4 h5 hF hrow hv
        by_cases hbig : 262144 < bs.length + (a.powered.file fi).b.length
        · have d7 : decide ((262144 : Int) - ((a.powered.file fi).b.length : Int) < (bs.length : Int)) = true := by simp; omega
          have HE : Hid (a.append x.data.toList bs = (23, a.powered)) := Lib.hid (by unfold ADk.append; simp only [HBAD.out, HF.out, if_pos hbig]; rfl)
          have hl9 := HFO.out.1
          generalize (a.powered.file fi).b.length = m at *
          clear hbig
          go_wp2_with fail
          go_ret
          rw [HE.out]
          exact ⟨rfl, dk_shut HPO.out L H4.out.fst.fst⟩
        · have d7 : decide ((262144 : Int) - ((a.powered.file fi).b.length : Int) < (bs.length : Int)) = false := by simp; omega
          have HE : Hid (a.append x.data.toList bs = (0, ADk.did { a.powered with fs := a.powered.fs.set fi ⟨(a.powered.file fi).b ++ bs, (a.powered.file fi).sy⟩ })) := Lib.hid (by unfold ADk.append; simp only [HBAD.out, HF.out, if_neg hbig]; rfl)
          have h4d := H4.out.quiet ((Kept.refl [] w4).drewN 1)
          change Has o w w4.drew _ at h4d
          have hBy := HB.out _ h4d.keeps
          obtain ⟨o5, hX, _, _, back5⟩ := h4d.left
          obtain ⟨o6, hY, _, _, back6⟩ := hX.left
          obtain ⟨v', w8, hrun, happ⟩ := run_append_bytes w4.drew (L.bv fi) bv (a.powered.file fi).b bs HROW.out hBy (by omega)
          obtain ⟨hk8, e0, z0, hD8⟩ := dkl_app (ys := bs) hY HLT.out (v' := v') (w5 := w8) happ
          have hfb8 : w8.cell? ⟨fb, 0, none⟩ = some (.pointer (some ⟨L.addr fi, 0, none⟩)) := by
            have := back5 w8 _ (back6 w8 Part.emp ⟨[], rfl, by simp, hk8⟩)
            obtain ⟨_, h9, _⟩ := this.right
            exact (h9.blkAt (i := 0) (by omega)).1
          obtain ⟨pv, cv, rfl⟩ := rowSlice happ.row
          have hDf := (back5 _ _ (back6 _ _ hD8)).fst.fst
          obtain ⟨n, hN⟩ : ∃ n, a.powered.ops = n := ⟨_, rfl⟩
          have HD9 := Lib.hid (show Has o w ((w8.setCell ⟨L.addr fi, 0, none⟩ (.slice pv ((a.powered.file fi).b ++ bs).length cv)).setCell ⟨db, 3, none⟩ (.int .i64 ((n : Int) + 1))) _ from dkl_didN hDf hN)
          obtain ⟨c3, f3⟩ := dkl_cell hDf 3 (by omega)
          replace c3 : (w8.setCell ⟨L.addr fi, 0, none⟩ (.slice pv ((a.powered.file fi).b ++ bs).length cv)).cell? ⟨db, 3, none⟩ = some (.int .i64 n) := by rw [c3, ← hN]; rfl
          have hops := HOP.out
          rw [hN] at hops
          have HOK2 := Lib.hid (a.append_ok HOK.out x.data.toList bs)
          have hl9 := HFO.out.1
          rw [D0.out, HBV.out] at hrun
          rw [D0.out] at e0
          have HST := Lib.hid hrun
          have HLL := Lib.hid (show ((a.powered.file fi).b ++ bs).length = ((a.powered.file fi).b ++ bs).length from rfl)
          generalize ((a.powered.file fi).b ++ bs).length = m2 at *
          generalize (a.powered.file fi).b.length = m at *
          clear hbig h4d hBy hX hY back5 back6 happ hD8 hDf hrun hN hk8
          go_wp2_with fail
          go_region_law (refine step_append_run rfl (.tmp 65) (.tmp 66) 27 rfl _ _ rfl rfl HST.out ?_)
          all_goals (
            go_wp2_with fail
            go_ret
            rw [HE.out] at HOK2 ⊢
            exact ⟨rfl, dk_shut HOK2.out _ HD9.out⟩))
  · have HE : Hid (a.append x.data.toList bs = (a.powered.bad false [x.data.toList], a.powered)) := Lib.hid (by unfold ADk.append; simp only [if_pos hbad])
    have hb0 : (a.powered.bad false [x.data.toList] != 0) = true := by simpa using hbad
    have hb1 : (a.powered.bad false [x.data.toList] = 0) ↔ False := by simpa using hbad
    have H3 := Lib.hid h3.fst
    simp only [List.map_cons, List.map_nil]
    generalize a.powered.bad false [x.data.toList] = n at *
    clear h3 hbad
    go_wp2_with fail
    go_ret
    rw [HE.out]
    exact ⟨rfl, H3.out⟩

end Go.Proofs.Ytbankfdgoolbdaa
namespace Go.Proofs.Ytbankfdgoolbdaa
open Go Go.RowKit Go.Lib
set_option linter.unusedVariables false
variable {o own : List Nat} {w0 w w' w1 : World} {db n : Nat} {a : ADk} {L : DLay} {A B : Part} {v : Value} {bs : List UInt8}

theorem BytesAt.kept (h : BytesAt w v bs) (k : Kept own w w') (hn : ∀ x i s, v = .slice (some x) i s → x.block ∉ own) : BytesAt w' v bs := by
  obtain ⟨p, c, rfl, h2, h3, h4⟩ := h.out
  refine ⟨p, c, rfl, h2, h3, fun x hx => ⟨(h4 x hx).1, fun j u hj => ?_⟩⟩
  subst hx
  obtain ⟨hs, hc⟩ := h4 x rfl
  have h5 := hc j u hj
  have hb := hn x _ _ rfl
  obtain ⟨xb, xo, xs⟩ := x
  obtain rfl : xs = none := hs
  have e : (⟨xb, xo, none⟩ : Addr).add j = ⟨xb, xo + j, none⟩ := by
    simp only [Addr.add]
    split
    · rename_i e; subst e; rfl
    · rfl
  rw [e] at h5 ⊢
  exact k.cell h5 hb

theorem bytesAt_part (h : Has o w0 w (.row 5 1 v bs.length (bytesV bs))) : BytesAt w v bs := by
  obtain ⟨_, ⟨hr, _⟩, _⟩ := h
  obtain ⟨p, c, rfl, _, h5⟩ := bytesAt_pre hr
  have := h5 bs.length (Nat.le_refl _)
  rwa [List.take_length] at this

/-- The left part is called; the right one stands. -/
theorem Has.leftB (h : Has o w0 w (A.sep B)) : ∃ o', Has o' w w A ∧ (∀ x ∈ o', x ∈ o ∨ w0.heap.size ≤ x) ∧ (∀ w', Kept o' w w' → ∃ o2, Has o2 w' w' B) ∧ ∀ w' A', Has o' w w' A' → Has o w0 w' (A'.sep B) := by
  obtain ⟨fp, ⟨f, g, hA, hB, hd, rfl⟩, hn, k⟩ := h
  have h1 : Has o w0 w (A.sep B) := ⟨f ++ g, ⟨f, g, hA, hB, hd, rfl⟩, hn, k⟩
  refine ⟨f, .refl hA, fun x hx => hn x (by simp [hx]), fun w' k' => ⟨g, .refl (B.kept hB k' fun x hx hx' => hd x hx' hx)⟩, ?_⟩
  rintro w' A' ⟨f', hA', hn', k'⟩
  refine ⟨f' ++ g, ⟨f', g, hA', B.kept hB k' fun x hx hx' => hd x hx' hx, ?_, rfl⟩, ?_, k.trans k' fun j hj m => (hn j (by simp [m])).resolve_right (by omega)⟩
  · intro x hx hx'
    rcases hn' x hx with h | h
    · exact hd x h hx'
    · have := B.lt hB x hx'; omega
  · intro x hx
    rcases List.mem_append.1 hx with hx | hx
    · rcases hn' x hx with h | h
      · exact hn x (by simp [h])
      · right; have := k.size; omega
    · exact hn x (by simp [hx])

/-- Append of bytes that lie in a row beside. -/
theorem append_row (h : Has o w0 w ((Dk db a).sep (.row 5 1 v bs.length (bytesV bs)))) (x : ByteArray) :
    Calls Try.prog 14 #[ptr db, .string x, v] w fun e w' => e = .returned (.int .i64 (a.append x.data.toList bs).1) ∧ Has o w0 w' ((Dk db (a.append x.data.toList bs).2).sep (.row 5 1 v bs.length (bytesV bs))) := by
  obtain ⟨o', h1, _, h3, back⟩ := h.leftB
  refine (append_walk h1 x v bs fun w' k => ?_).mono ?_
  · obtain ⟨o2, h4⟩ := h3 w' k
    exact (bytesAt_part h4).x
  · rintro e w' ⟨rfl, h5⟩
    exact ⟨rfl, back _ _ h5⟩

theorem cell_lt {x : Addr} {u : Value} (h : w.cell? x = some u) : x.block < w.heap.size := by
  simp only [World.cell?] at h
  split at h
  · rename_i c _ _ hh
    exact (Array.getElem?_eq_some_iff.1 hh).1
  · cases h

theorem BytesX.kept (h : BytesX w v bs) (k : Kept own w w') (hn : ∀ x ∈ own, w.heap.size ≤ x) : BytesX w' v bs := by
  obtain ⟨p, c, rfl, h3, h4⟩ := h.out
  refine ⟨p, c, rfl, h3, fun x hx j u hj => ?_⟩
  have h5 := h4 x hx j u hj
  have h6 := cell_lt h5
  have h7 := World.cell?_spot h5
  generalize x.add j = y at *
  obtain ⟨yb, yo, ys⟩ := y
  obtain rfl : ys = none := h7
  exact k.cell h5 fun hm => by have := hn _ hm; simp at h6; omega

/-- Append of bytes that came in. -/
theorem append_out (h : Has [] w0 w (Dk db a)) (x : ByteArray) (hB : BytesX w0 v bs) :
    Calls Try.prog 14 #[ptr db, .string x, v] w fun e w' => e = .returned (.int .i64 (a.append x.data.toList bs).1) ∧ Has [] w0 w' (Dk db (a.append x.data.toList bs).2) := by
  obtain ⟨fp, hA, hn, k⟩ := h
  have h1 : Has fp w w (Dk db a) := .refl hA
  refine (append_walk h1 x v bs fun w' k' => ?_).mono ?_
  · exact hB.kept (own := fp) ((k.mono fun _ _ h => by simp at h).tr k') fun y hy => (hn y hy).resolve_left (by simp)
  · rintro e w' ⟨rfl, h5⟩
    exact ⟨rfl, Has.step hn k h5⟩

end Go.Proofs.Ytbankfdgoolbdaa
namespace Go.Proofs.Ytbankfdgoolbdaa
open Go Go.RowKit Go.Lib
set_option linter.unusedVariables false
variable {w : World} {v : Value} {bs : List UInt8}

/-- '[]byte("..")' of a constant: a new row, marked. -/
theorem conv_mark (w : World) (C : Array Value) : (convert 27 27 (.slice (some ⟨w.heap.size, 0, none⟩) C.size C.size)).run Try.prog (w.alloc (.cells C 5)) = .ok (.slice (some ⟨w.heap.size, 0, none⟩) C.size C.size) (w.alloc (.cells C 5 (C.size, C.size + 1))) := by
  have hsh : (w.alloc (.cells C 5)).shape? w.heap.size = some (5, C.size) := by
    have : (w.alloc (.cells C 5)).heap[w.heap.size]? = some (.cells C 5) := by
      show (w.heap.push (.cells C 5))[w.heap.size]? = _
      simp
    unfold World.shape?
    rw [this]
  have hfr : ∀ n : Nat, (w.alloc (.cells C 5)).freeze ⟨w.heap.size, n, none⟩ 1 = w.alloc (.cells C 5 (n, n + 1)) := fun n => by
    have hm : ∀ (a : Array Obj) (x : Obj) (f : Obj → Obj), (a.push x).modify a.size f = a.push (f x) := by
      intro a x f
      apply Array.ext
      · simp
      · intro i h1 h2
        simp only [Array.getElem_modify, Array.getElem_push]
        by_cases h : a.size = i
        · subst h
          simp
        · have hi : i < a.size := by simp at h1; omega
          simp [h, hi]
    unfold World.freeze
    rw [if_neg (by decide)]
    show ({ w.alloc (.cells C 5) with heap := (w.heap.push (.cells C 5)).modify w.heap.size _ } : World) = _
    rw [hm]
    rfl
  simp [convert, run_underlying Try.underlying27, run_underlying Try.underlying5, markStringish, hsh]
  exact hfr _

theorem conv_strX (h : BytesX w v bs) : (convert 27 9 v).run Try.prog w = .ok (.string ⟨bs.toArray⟩) w := by
  obtain ⟨p, c, rfl, h3, h4⟩ := h.out
  cases p with
  | none =>
    obtain ⟨h5, rfl⟩ := h3 rfl
    obtain rfl : bs = [] := List.eq_nil_of_length_eq_zero h5
    kernel_rfl
  | some x =>
    exact run_convert_bytes_back w _ _ _ x c bs Try.underlying27 Try.underlying5 Try.underlying9 fun j hj => h4 x rfl j _ (by
      unfold bytesV; rw [List.getElem?_map, List.getElem?_eq_getElem hj]; rfl)

theorem conv_str (h : BytesAt w v bs) : (convert 27 9 v).run Try.prog w = .ok (.string ⟨bs.toArray⟩) w := conv_strX h.x

theorem bytes_none (w : World) : BytesAt w (.slice none 0 0) [] := ⟨none, 0, rfl, by simp, fun _ => ⟨rfl, rfl⟩, fun x hx => by cases hx⟩

def nmA : ByteArray := ⟨#[97]⟩
def nmAB : ByteArray := ⟨#[97, 32, 98]⟩
def nmQ : ByteArray := ⟨#[113]⟩
def ex1 : Int × ADk := ADk.new.append nmA.data.toList [120, 121]
def ex2 : ADk := ex1.2.crash 1 1 1
def ex3 : ADk := ex1.2.crash 9 0 0
def ex4 : Int × ADk := ex1.2.append nmAB.data.toList []
def ex5 : Int × ADk := ex4.2.sync nmQ.data.toList
theorem ex_all : ex1.1 = 0 ∧ ex1.2.read nmA.data.toList = ([120, 121], 0) ∧ ex2.read nmA.data.toList = ([135], 0) ∧ ex3.names = [] ∧ ex1.2.ops = 1 ∧ ex4.1 = 20 ∧ ex5.1 = 21 := by decide +kernel

set_option maxHeartbeats 4000000 in
set_option maxRecDepth 100000 in
theorem shown_walk (w : World) :
    Calls Try.prog 8 #[] w fun e w' => e = .returned (.bool true) ∧ Kept [] w w' := by
  obtain ⟨x1, x2, x3, x4, x5, x6, x7⟩ := ex_all
  go_enter Try.func8, Try.ntmps8
  go_wp2_with fail
  refine (new_walk _).mono ?_
  rintro e w1 ⟨db, rfl, _, h1⟩
  have hr := conv_mark w1 #[Value.int IntKind.u8 120, Value.int IntKind.u8 121]
  obtain ⟨o1, h2, hlt, back⟩ := h1.call
  have k1 : Kept [] w1 (w1.alloc (.cells #[Value.int IntKind.u8 120, Value.int IntKind.u8 121] 5 (2, 3))) := (Kept.refl _ _).alloc _
  have hb1 : BytesAt (w1.alloc (.cells #[Value.int IntKind.u8 120, Value.int IntKind.u8 121] 5 (2, 3))) (.slice (some ⟨w1.heap.size, 0, none⟩) 2 2) [120, 121] :=
    ⟨_, 2, rfl, by decide, (fun e => by cases e), fun x hx => by
      cases hx
      refine ⟨rfl, fun j u hj => ?_⟩
      rw [addr0, World.cell?_alloc_mark, ← Array.getElem?_toList]
      exact hj⟩
  have HA := Lib.hid ((append_walk (h2.onto k1) nmA _ _ fun w' k => (hb1.kept k fun y i s e hx => by
      cases e
      have := hlt _ hx
      simp at this).x).mono (R' := fun e w' => e = .returned (.int .i64 0) ∧ Has [] w w' (Dk db ex1.2)) (by
    rintro e w' ⟨rfl, h'⟩
    refine ⟨?_, back _ _ (h'.from k1)⟩
    rw [← x1]; rfl))
  clear h1 h2 back hlt k1 hb1
  simp only [List.size_toArray, List.length_cons, List.length_nil, Nat.reduceAdd] at hr
  unfold ptr at HA ⊢
  go_wp2_with fail
  refine HA.out.mono ?_
  rintro e w2 ⟨rfl, h2⟩
  have HR := Lib.hid ((read_walk h2 nmA).mono (R' := fun e w' => ∃ v, e = .returned (.tuple #[v, .int .i64 0]) ∧ Has [] w w' ((Dk db ex1.2).sep (.row 5 1 v ([120, 121] : List UInt8).length (bytesV [120, 121])))) (by
    rw [x2]
    rintro e w' ⟨v, rfl, h'⟩
    exact ⟨v, rfl, h2.beside h'⟩))
  clear h2 HA hr
  unfold ptr at HR
  go_wp2_with fail
  refine HR.out.mono ?_
  rintro e w3 ⟨vb, rfl, h3⟩
  have HC := Lib.hid ((crash_walk h3.fst 1 1 1).mono (R' := fun e w' => ∃ db2, e = .returned (.pointer (some ⟨db2, 0, none⟩)) ∧ Has [] w w' (((Dk db ex1.2).sep (.row 5 1 vb ([120, 121] : List UInt8).length (bytesV [120, 121]))).sep (Dk db2 ex2))) (by
    rintro e w' ⟨db2, rfl, h'⟩
    exact ⟨db2, rfl, h3.beside h'⟩))
  clear h3 HR
  unfold ptr at HC
  go_wp2_with fail
  refine HC.out.mono ?_
  rintro e w4 ⟨db2, rfl, h4⟩
  have HR := Lib.hid ((read_walk h4.swap.fst nmA).mono (R' := fun e w' => ∃ v, e = .returned (.tuple #[v, .int .i64 0]) ∧ Has [] w w' (((Dk db ex1.2).sep (.row 5 1 vb ([120, 121] : List UInt8).length (bytesV [120, 121]))).sep (.row 5 1 v ([135] : List UInt8).length (bytesV [135])))) (by
    rw [x3]
    rintro e w' ⟨v, rfl, h'⟩
    exact ⟨v, rfl, h4.fst.beside h'⟩))
  clear h4 HC
  unfold ptr at HR
  go_wp2_with fail
  refine HR.out.mono ?_
  rintro e w5 ⟨vt, rfl, h5⟩
  have HC := Lib.hid ((crash_walk h5.fst.fst 9 0 0).mono (R' := fun e w' => ∃ db2, e = .returned (.pointer (some ⟨db2, 0, none⟩)) ∧ Has [] w w' ((((Dk db ex1.2).sep (.row 5 1 vb ([120, 121] : List UInt8).length (bytesV [120, 121]))).sep (.row 5 1 vt ([135] : List UInt8).length (bytesV [135]))).sep (Dk db2 ex3))) (by
    rintro e w' ⟨db2, rfl, h'⟩
    exact ⟨db2, rfl, h5.beside h'⟩))
  clear h5 HR
  unfold ptr at HC
  go_wp2_with fail
  refine HC.out.mono ?_
  rintro e w6 ⟨db3, rfl, h6⟩
  have HN := Lib.hid ((names_walk h6.swap.fst).mono (R' := fun e w' => ∃ p c, e = .returned (.slice p 0 c) ∧ Has [] w w' (((Dk db ex1.2).sep (.row 5 1 vb ([120, 121] : List UInt8).length (bytesV [120, 121]))).sep (.row 5 1 vt ([135] : List UInt8).length (bytesV [135])))) (by
    rw [x4]
    rintro e w' ⟨v, rfl, h'⟩
    obtain ⟨_, ⟨hr, _⟩, _⟩ := id h'
    obtain ⟨p, c, rfl⟩ := rowSlice hr
    exact ⟨p, c, rfl, h6.fst.quiet h'.keeps⟩))
  clear h6 HC
  unfold ptr at HN
  go_wp2_with fail
  refine HN.out.mono ?_
  rintro e w7 ⟨np, nc, rfl, h7⟩
  have HB := Lib.hid h7.fst
  obtain ⟨_, ht, _⟩ := h7.right
  obtain ⟨_, hb, _⟩ := HB.out.right
  have b1 := conv_str (bytesAt_part hb)
  have b2 := conv_str (bytesAt_part ht)
  have HK := Lib.hid h7.keeps
  clear HN h7 ht hb
  go_wp2_with fail
  have HO := Lib.hid (ops_walk HB.out.fst)
  rw [x5] at HO
  refine HO.out.mono ?_
  rintro e w8 ⟨rfl, hk8⟩
  have h8 := HB.out.fst.quiet hk8
  have HA := Lib.hid ((append_out (bs := []) h8 nmAB (bytes_none _).x).mono (R' := fun e w' => e = .returned (.int .i64 20) ∧ Has [] w w' (Dk db ex4.2)) (by
    rintro e w' ⟨rfl, h'⟩
    refine ⟨?_, h'⟩
    rw [← x6]; rfl))
  clear h8 hk8 HO
  unfold ptr at HA
  go_wp2_with fail
  refine HA.out.mono ?_
  rintro e w9 ⟨rfl, h9⟩
  obtain ⟨o9, h9', hs9, back⟩ := h9.call
  have HS := Lib.hid ((sync_walk h9' nmQ).mono (R' := fun e w' => e = .returned (.int .i64 21) ∧ Kept [] w w') (by
    rintro e w' ⟨rfl, h'⟩
    refine ⟨?_, (back _ _ h').keeps⟩
    rw [← x7]; rfl))
  clear h9 h9' HA hs9 back
  unfold ptr at HS
  go_wp2_with fail
  refine HS.out.mono ?_
  rintro e w10 ⟨rfl, h10⟩
  have H10 := Lib.hid h10
  clear h10 HS
  go_wp2_with fail
  go_ret
  exact ⟨rfl, H10.out⟩
end Go.Proofs.Ytbankfdgoolbdaa
