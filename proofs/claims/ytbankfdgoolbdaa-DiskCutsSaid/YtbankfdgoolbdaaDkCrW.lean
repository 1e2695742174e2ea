/- Crash walked. -/
import Derived.Test.YtbankfdgoolbdaaDkCrR
import Derived.Deep.RegionHeld3
namespace Go.Proofs.Ytbankfdgoolbdaa
open Go Go.RowKit Go.Lib Go.Maps
set_option linter.unusedVariables false
variable {o : List Nat} {w0 w w' w1 w3 w4 w5 : World} {db : Nat} {a : ADk} {L : DLay}

theorem rowSliceLe {e : TypeId} {v : Value} {n : Nat} {xs : List Value} (h : w.ownsRow 0 e 1 v n xs) : ∃ p c, v = .slice p n c ∧ n ≤ c ∧ ∀ i u, i < n → xs[i]? = some u → ∃ g, p = some ⟨g, 0, none⟩ ∧ g < w.heap.size ∧ w.cell? ⟨g, i, none⟩ = some u := by
  rcases row_val h with ⟨rfl, h0⟩ | ⟨g, cap, rfl, h1, _, hg, _, hc⟩
  · exact ⟨_, _, by rw [h0], by omega, fun i u hi => by omega⟩
  · exact ⟨_, _, rfl, h1, fun i u _ hu => ⟨g, rfl, hg, hc i u hu⟩⟩

theorem xor_byte (b : UInt8) : bits BinOp.xor IntKind.u8 (b.toNat : Int) 255 = ((b ^^^ 255).toNat : Int) := by
  have h : ∀ n : Nat, n < 256 → bits BinOp.xor IntKind.u8 (n : Int) 255 = (((UInt8.ofNat n) ^^^ 255).toNat : Int) := by decide +kernel
  have := h b.toNat b.toNat_lt
  rwa [UInt8.ofNat_toNat] at this

theorem BytesAt.of_heap {v : Value} {b : List UInt8} (h : BytesAt w v b) (e : w'.heap = w.heap) : BytesAt w' v b := by
  obtain ⟨p, c, h1, h2, h3, h4⟩ := h.out
  refine ⟨p, c, h1, h2, h3, fun x hx => ⟨(h4 x hx).1, fun j u hj => ?_⟩⟩
  have := (h4 x hx).2 j u hj
  simp only [World.cell?] at this ⊢
  rw [e]
  exact this

theorem bytesAt_pre {v : Value} {b : List UInt8} (h : w.ownsRow 0 5 1 v b.length (bytesV b)) : ∃ p c, v = .slice p b.length c ∧ b.length ≤ c ∧ ∀ m, m ≤ b.length → BytesAt w (.slice p m c) (b.take m) := by
  rcases row_val h with ⟨rfl, h0⟩ | ⟨g, cap, rfl, h1, h2, h3, h4, h5⟩
  · refine ⟨none, 0, by rw [h0], by omega, fun m hm => ⟨none, 0, by rw [List.length_take]; congr 1; omega, by rw [List.length_take]; omega, fun _ => ⟨by rw [List.length_take]; omega, rfl⟩, fun x hx => by cases hx⟩⟩
  · refine ⟨_, cap, rfl, h1, fun m hm => ⟨_, cap, by rw [List.length_take]; congr 1; omega, by rw [List.length_take]; omega, (fun e => by cases e), fun x hx => ?_⟩⟩
    cases hx
    refine ⟨rfl, fun j u hj => ?_⟩
    rw [addr0]
    refine h5 j u ?_
    unfold bytesV at hj ⊢
    rw [List.getElem?_map] at hj ⊢
    have hjm : j < m := by
      cases hq : (b.take m)[j]? with
      | none => rw [hq] at hj; cases hj
      | some q => have := (List.getElem?_eq_some_iff.1 hq).1; rw [List.length_take] at this; omega
    rwa [List.getElem?_take_of_lt hjm] at hj

theorem dirOk_len {l : Dir} (h : DirOk a l) : l.length < maxLen := by
  have h1 := h.len
  have : (64 : Nat) < maxLen := by decide
  omega

theorem clamp_eq (x : Int) (n : Nat) : min (max x 0) (n : Int) = (clamp x n : Int) := by
  unfold clamp
  omega

theorem key_inv (key : Value) (kl : Lit) (h : keyOf Try.prog 9 key = some kl) : ∃ x : ByteArray, key = .string x := by
  obtain ⟨s, h1, _⟩ := Maps.keyOf_str Try.underlying9 h
  exact ⟨_, h1⟩

theorem left_has (l : Dir) (ad : Nat → Nat) (j : Nat) (hj : j < l.length) : Maps.has (dmap (dirV ad l)) (.string (nmAt l j)) = true := by
  rw [has_key]
  unfold dirV alMap
  rw [List.any_map, List.any_eq_true]
  refine ⟨l[j], List.getElem_mem hj, ?_⟩
  unfold nmAt
  rw [List.getD_eq_getElem?_getD, List.getElem?_eq_getElem hj]
  simp

def fateF (keep dirs tear : Int) : Nat → Value
  | 0 => .int .i64 keep
  | 1 => .int .i64 dirs
  | _ => .int .i64 tear

theorem dkl_old (h : Has o w0 w (DkL db a L)) : MapAt w L.ob (dirV L.addr a.old) := by
  obtain ⟨o', h', _⟩ := h.dkOld
  exact h'.mapAt

theorem dkl_log (h : Has o w0 w (DkL db a L)) : w.ownsRow 0 68 1 L.lv a.log.length (logV L a.log) := by
  obtain ⟨o', ⟨_, ⟨hr, _⟩, _⟩, _⟩ := h.dkLog
  have e : (logV L a.log).length = a.log.length := by simp [logV]
  rw [e] at hr
  exact hr

set_option maxHeartbeats 4000000 in
set_option maxRecDepth 100000 in
theorem crash_walk (h : Has o w0 w (Dk db a)) (keep dirs tear : Int) :
    Calls Try.prog 17 #[ptr db, .agg #[.int .i64 keep, .int .i64 dirs, .int .i64 tear]] w fun e w' => ∃ db2, e = .returned (ptr db2) ∧ Has [] w w' (Dk db2 (a.crash keep dirs tear)) := by
  obtain ⟨ha, L, hL⟩ := dk_open h
  have hF := Has.madeBlk (w := w) #[.int .i64 keep, .int .i64 dirs, .int .i64 tear] 29 (fateF keep dirs tear) 3 rfl (by
    intro i hi
    match i with
    | 0 | 1 | 2 => rfl
    | i + 3 => omega)
  have hLa := hL.quiet hF.keeps
  have HC := Lib.hid (clone_walk (dkl_old hLa))
  have c1 : (w.alloc (.cells #[.int .i64 keep, .int .i64 dirs, .int .i64 tear] 29)).cell? ⟨db, 1, none⟩ = some (.map (some L.ob)) := (dkl_cell hLa 1 (by omega)).1
  obtain ⟨lp, lc, hlv, hlc, _⟩ := rowSliceLe (dkl_log hL)
  have hk1 : clamp dirs a.log.length ≤ lc := Nat.le_trans (Nat.min_le_right _ _) hlc
  have HF := Lib.hid hF
  have HL := Lib.hid hL
  have HLV := Lib.hid hlv
  clear h hL hF hLa hlv
  unfold ptr
  go_enter Try.func17, Try.ntmps17
  go_wp2_with fail
  refine HC.out.mono ?_
  rintro e w1 ⟨rfl, h1⟩
  have hB1 := HF.out.beside h1
  have hL1 := HL.out.quiet hB1.keeps
  have c2 : w1.cell? ⟨db, 2, none⟩ = some L.lv := (dkl_cell hL1 2 (by omega)).1
  rw [HLV.out] at c2
  obtain ⟨_, h2, _⟩ := hB1.left
  have e1 : w1.cell? ⟨w.heap.size, 1, none⟩ = some (.int .i64 dirs) := (h2.blkAt (i := 1) (by omega)).1
  have HB1 := Lib.hid hB1
  have hsz : (w.alloc (.cells #[.int .i64 keep, .int .i64 dirs, .int .i64 tear] 29)).heap.size = w.heap.size + 1 := by simp
  rw [hsz] at HB1 ⊢
  have hcl := clamp_eq dirs a.log.length
  obtain ⟨k, hk⟩ : ∃ k, clamp dirs a.log.length = k := ⟨_, rfl⟩
  rw [hk] at hk1 hcl
  have HK := Lib.hid hk
  clear hk
  clear h1 hB1 hL1 h2 c1 HC hsz
  go_wp2_with fail
  go_region
  have HB2 := Lib.hid (HB1.out.quiet ((Kept.refl [] w1).drewN 1))
  change Hid (Has [] w w1.drew _) at HB2
  have HA := Lib.hid ha
  have hlg : a.log.length ≤ 65536 := Nat.le_trans ha.loglen ha.ops
  have hkl : k ≤ a.log.length := by rw [← HK.out]; exact Nat.min_le_right _ _
  clear HB1 c2 e1 hcl ha
  generalize w1.drew = w2 at *
  go_wp2_with fail
  go_loopg [7, 36] k (fun kk fv iv wr => ∃ (i : Nat) (l : Dir), i ≤ k ∧ kk = k - i ∧ iv = .int .i64 i ∧ runLog a.old (a.log.take i) = some l ∧ Has [] w wr ((Part.blk w.heap.size 3 29 (fateF keep dirs tear)).sep (.map (w.heap.size + 1) (dirV L.addr l))))
  case atStart => exact ⟨0, a.old, Nat.zero_le _, rfl, rfl, rfl, HB2.out⟩
  case round =>
    obtain ⟨i, l, hi, hkk, rfl, hrl, hW⟩ := hrel
    have HKK := Lib.hid hkk
    have HRL := Lib.hid hrl
    clear hkk HB2
    by_cases hlt : i < k
    · have d1 : decide ((i : Int) < (k : Int)) = true := by simp; omega
      have d1' : decide (i < k) = true := by simp; omega
      have hLr := HL.out.quiet hW.keeps
      have hil : i < a.log.length := by omega
      obtain ⟨c, hc⟩ : ∃ c, a.log[i]? = some c := ⟨_, List.getElem?_eq_getElem hil⟩
      obtain ⟨q1, q2, hlv2, _, hcl⟩ := rowSliceLe (dkl_log hLr)
      obtain ⟨g, hp, hg, hcell⟩ := hcl i (cloV (L.b1 i) (L.b2 i) c) hil (by unfold logV; rw [List.getElem?_mapIdx, hc]; rfl)
      rw [HLV.out] at hlv2
      have hq : lp = q1 := by injection hlv2
      rw [← hq] at hp
      clear hq hcl hlv2
      obtain ⟨l', hl', hd'⟩ := HA.out.prefix (i + 1)
      obtain ⟨l2, hl2, hd2⟩ := HA.out.prefix i
      rw [hrl] at hl2
      obtain rfl : l = l2 := Option.some.inj hl2
      have hon : c.on l = some l' := by rw [← runLog_snoc hrl hc]; exact hl'
      obtain ⟨_, hbx⟩ := hLr.dkBox hil
      have hbx2 := boxAt_of hbx
      rw [List.getD_eq_getElem?_getD, hc] at hbx2
      obtain ⟨o8, hM8, _, _, back8⟩ := hW.right
      have hcw := clo_walk c (L.b1 i) (L.b2 i) hM8 hon (HA.out.named c (List.mem_of_getElem? hc)) (dirOk_len hd2) hbx2
      have HCW := Lib.hid (hcw.mono (R' := fun e w' => e = .returned (.tuple #[]) ∧ Has [] w w' ((Part.blk w.heap.size 3 29 (fateF keep dirs tear)).sep (.map (w.heap.size + 1) (dirV L.addr l')))) (by
        rintro e w' ⟨rfl, h'⟩
        exact ⟨rfl, back8 _ _ h'⟩))
      have HL' := Lib.hid hl'
      have hce := clo_enters c
      rw [cloV_eq] at hcell
      subst hp
      obtain ⟨cf, hcf⟩ : ∃ cf, cloF c = cf := ⟨_, rfl⟩
      obtain ⟨cc, hcc⟩ : ∃ cc, cloCap (L.b1 i) (L.b2 i) c = cc := ⟨_, rfl⟩
      rw [hcf] at hce HCW hcell
      rw [hcc] at HCW hcell
      clear hcf hcc hW hLr hc hl' hd' hl2 hd2 hon hbx hbx2 hM8 back8 hcw hrl
      go_wp2_with fail
      refine HCW.out.mono ?_
      rintro e w6 ⟨rfl, h6⟩
      have H6 := Lib.hid h6
      clear h6 HCW
      go_wp2_with fail
      go_roundg (k - (i + 1))
      case measure => rw [HKK.out]; omega
      case rel => exact ⟨i + 1, l', by omega, rfl, by go_num, HL'.out, H6.out⟩
    · have d1 : decide ((i : Int) < (k : Int)) = false := by simp; omega
      have d1' : decide (i < k) = false := by simp; omega
      obtain rfl : i = k := by omega
      have HNW := Lib.hid ((new_walk wr).mono (R' := fun e w' => ∃ db2, e = .returned (ptr db2) ∧ Has [] w w' (((Part.blk w.heap.size 3 29 (fateF keep dirs tear)).sep (.map (w.heap.size + 1) (dirV L.addr l))).sep (Dk db2 ADk.new))) (by
        rintro e w' ⟨db2, rfl, _, h'⟩
        exact ⟨db2, rfl, hW.beside h'⟩))
      clear hW hrl
      go_wp2_with fail
      refine HNW.out.mono ?_
      rintro e w5 ⟨db2, rfl, h5⟩
      obtain ⟨o6, hM, _, _, back⟩ := h5.fst.right
      have hown := hM.mapAt
      have H5 := Lib.hid h5
      clear HNW h5 hM back
      unfold ptr
      go_wp2_with (first | (at_range; refine wpList_range_own _ rfl _ 60 rfl 9 69 strKeyed Try.underlying60 anyElem (w.heap.size + 1) (dirV L.addr l).length (dmap (dirV L.addr l)) rfl hown ?_; intro w6 hrg hg hs) | fail)
      go_frame
      have hb1 : ∃ L2, Has [] w w6 (((Part.blk w.heap.size 3 29 (fateF keep dirs tear)).sep (.rng (w.heap.size + 1) w5.heap.size (dirV L.addr l) (Maps.has (dmap (dirV L.addr l))) (Maps.size (dmap (dirV L.addr l))))).sep
          (CrO db2 l (fun j => (a.file (l.getD j ([], 0)).2).left keep tear) (fun t => Maps.has (dmap (dirV L.addr l)) (.string t)) L2)) := by
        obtain ⟨o1, h1, _, _, b1⟩ := H5.out.left
        obtain ⟨o2, h2, _, _, b2⟩ := h1.right
        have h3 := b1 _ _ (b2 _ _ (h2.rngBegin hrg hg))
        obtain ⟨o3, h4, _, _, b3⟩ := h3.right
        obtain ⟨L2, h5⟩ := cro_begin (l := l) (x := fun j => (a.file (l.getD j ([], 0)).2).left keep tear) (left := fun t => Maps.has (dmap (dirV L.addr l)) (.string t)) h4 (left_has l L.addr)
        exact ⟨L2, b3 _ _ h5⟩
      have HB6 := Lib.hid hb1
      clear hb1 hrg hg hs hown H5
      generalize w5.heap.size = rb at *
      go_loopg [9] (Maps.size (dmap (dirV L.addr l))) (fun cnt v9 wr => ∃ (lf : Lit → Bool) (L2 : DLay), Has [] w wr (((Part.blk w.heap.size 3 29 (fateF keep dirs tear)).sep (.rng (w.heap.size + 1) rb (dirV L.addr l) lf cnt)).sep
          (CrO db2 l (fun j => (a.file (l.getD j ([], 0)).2).left keep tear) (fun t => lf (.string t)) L2)))
      case atStart =>
        obtain ⟨L2, h⟩ := HB6.out
        exact ⟨_, L2, h⟩
      case round =>
        obtain ⟨lf, L2, hR⟩ := hrel
        obtain ⟨o7, h7, _, _, b7⟩ := hR.left
        obtain ⟨o8, h8, _, _, b8⟩ := h7.right
        have hrg := h8.rngAt
        have HR := Lib.hid hR
        clear hR h7 h8 b7 b8 HB6
        go_wp2_with (first | (at_next; refine wpList_next_ranges _ rfl _ rfl 9 strKeyed anyElem (fun x : ByteArray => Value.string x) (fun v : Value => v) key_inv (fun v _ _ => ⟨v, rfl⟩) (w.heap.size + 1) rb (dirV L.addr l).length (dmap (dirV L.addr l)) _ _ rfl hrg ?_ ?_) | fail)
        · intro hc0 hl0
          obtain ⟨oR, hRr, _, _, backR⟩ := HR.out.right
          have c0 : wr.cell? ⟨db2, 0, none⟩ = some (.map (some L2.mb)) := (cro_cell hRr 0 (by omega)).1
          have f1 := (cro_cell hRr 1 (by omega)).2
          have HC3 := Lib.hid ((clone_walk (cro_now hRr)).mono (R' := fun e w' => e = .returned (.map (some wr.heap.size)) ∧ w'.cell? ⟨db2, 1, none⟩ = some (.map (some L2.ob)) ∧ w'.frozen? ⟨db2, 1, none⟩ = false ∧ Has [] w (w'.setCell ⟨db2, 1, none⟩ (.map (some wr.heap.size))) (Dk db2 (a.crash keep dirs tear))) (by
            rintro e w' ⟨rfl, h'⟩
            refine ⟨rfl, (cro_cell (hRr.quiet h'.keeps) 1 (by omega)).1, (cro_cell (hRr.quiet h'.keeps) 1 (by omega)).2, ?_⟩
            have hE := cro_end hRr (fun j _ => hl0 (Lit.string (nmAt l j))) h' (l.map fun p => (a.file p.2).left keep tear) (by simp) (fun j hj => by
              simp only [List.getD_eq_getElem?_getD, List.getElem?_map, List.getElem?_eq_getElem hj, Option.map_some, Option.getD_some])
            have e9 : a.crash keep dirs tear = ⟨l.map fun p => (a.file p.2).left keep tear, numbered l, numbered l, [], 0, -1, false⟩ := by
              unfold ADk.crash numbered
              have h9 : a.log.take dirs.toNat = a.log.take i := by
                rw [← HK.out]
                unfold clamp
                rw [List.take_eq_take_min]
              rw [h9, HRL.out]
              rfl
            have hD := dk_shut (a := a.crash keep dirs tear) (a.crash_ok HA.out keep dirs tear) { L2 with ob := wr.heap.size } (by rw [e9]; exact hE)
            exact (backR _ _ hD).swap.fst))
          clear hRr backR hrg HR hl0
          go_wp2_with fail
          refine HC3.out.mono ?_
          rintro e w11 ⟨rfl, c11, f11, h11⟩
          have H11 := Lib.hid h11
          clear h11 HC3
          go_wp2_with fail
          go_ret
          exact ⟨db2, rfl, H11.out⟩
        · intro x c kl y yp w7 cnt' hkey hlk hcy hat hrg7 hlt7 hg7 hs7 hen
          obtain ⟨rfl, hfc, hxs⟩ := rng_entry hkey hcy hat
          rw [dirV_find, Option.map_eq_some_iff] at hfc
          obtain ⟨fi, hfi, rfl⟩ := hfc
          obtain ⟨j, hj⟩ := List.mem_iff_getElem?.1 (alFind_mem hfi)
          have hR7 : Has [] w w7 (((Part.blk w.heap.size 3 29 (fateF keep dirs tear)).sep (.rng (w.heap.size + 1) rb (dirV L.addr l) (fun z => lf z && !z.sameKey (.string x.data.toList)) cnt')).sep
              (CrO db2 l (fun j => (a.file (l.getD j ([], 0)).2).left keep tear) (fun t => lf (.string t)) L2)) := by
            obtain ⟨o7, h7, _, _, b7⟩ := HR.out.left
            obtain ⟨o8, h8, _, _, b8⟩ := h7.right
            exact b7 _ _ (b8 _ _ (h8.rngNext hrg7 hg7))
          obtain ⟨ld, hld, hdo⟩ := HA.out.prefix i
          rw [HRL.out] at hld
          obtain rfl : l = ld := Option.some.inj hld
          have hfil : fi < a.fs.length := hdo.ids _ (alFind_mem hfi)
          have hL7 := HL.out.quiet hR7.keeps
          obtain ⟨o9, hF9, _⟩ := dkl_file hL7 hfil
          obtain ⟨g0, g1, _, _, _, hrow⟩ := file_at hF9
          obtain ⟨p, pc, hbv, hpc, hpre⟩ := bytesAt_pre hrow
          rw [hbv] at g0
          have hfok := a.file_ok HA.out fi
          obtain ⟨_, hf0, _⟩ := hR7.fst.left
          have e0 : w7.cell? ⟨w.heap.size, 0, none⟩ = some (.int .i64 keep) := (hf0.blkAt (i := 0) (by omega)).1
          have e2 : w7.cell? ⟨w.heap.size, 2, none⟩ = some (.int .i64 tear) := (hf0.blkAt (i := 2) (by omega)).1
          have hcl := clamp_eq keep ((a.file fi).b.length - (a.file fi).sy)
          rw [Int.ofNat_sub hfok.2] at hcl
          obtain ⟨kp, hkp⟩ : ∃ kp, clamp keep ((a.file fi).b.length - (a.file fi).sy) = kp := ⟨_, rfl⟩
          rw [hkp] at hcl
          have hkl2 : (a.file fi).sy + kp ≤ (a.file fi).b.length := by
            have : kp ≤ (a.file fi).b.length - (a.file fi).sy := by rw [← hkp]; exact Nat.min_le_right _ _
            omega
          have HR7 := Lib.hid hR7
          have HJ := Lib.hid hj
          have HDO := Lib.hid hdo
          have HKP := Lib.hid hkp
          have HFOK := Lib.hid hfok
          have HFI := Lib.hid hfi
          have hbl : ((a.file fi).b.take ((a.file fi).sy + kp)).length = (a.file fi).sy + kp := by rw [List.length_take]; omega
          have HCL := Lib.hid (fun (W : World) (hW : W.heap = w7.heap) => bytes_clone ((hpre _ hkl2).of_heap hW) (by rw [hbl]; have := hfok.1; omega))
          rw [hbl] at HCL
          clear hbl
          clear hrg hrg7 hg7 hs7 hat hcy hlk hkey hld hdo hL7 hF9 hrow hR7 hf0 HR hj hkp hfi hpre hbv
          have hlen9 := hfok.1
          clear hfok
          unfold ptr at hen ⊢
          generalize hN1 : (a.file fi).b.length = n1 at *
          generalize hN2 : (a.file fi).sy = n2 at *
          have HN1 := Lib.hid hN1
          have HN2 := Lib.hid hN2
          clear hN1 hN2
          have hsub : n2 ≤ n1 := by omega
          obtain ⟨nk, hnk⟩ : ∃ nk, n2 + kp = nk := ⟨_, rfl⟩
          rw [hnk] at HCL hkl2
          have q0 : (n2 : Int) + (kp : Int) = (nk : Int) := by omega
          have q1 : IntKind.i64.wrap ((n2 : Int) + (kp : Int)) = (nk : Int) := by rw [q0]; exact IntWalk.i64_in _ (by omega)
          have q2 : (0 : Int) ≤ (nk : Int) := by omega
          have q3 : (nk : Int) ≤ (pc : Int) := by omega
          have q4 : nk ≤ pc := by omega
          have q5 : IntKind.i64.wrap (nk : Int) = (nk : Int) := IntWalk.i64_in _ (by omega)
          have HNK := Lib.hid hnk
          clear hnk
          go_wp2_with fail
          go_region
          go_wp2_with fail
          go_region_held3 (fun w' => w'.cell? ⟨L.addr fi, 0, none⟩ = some (.slice p n1 pc) ∧ w'.cell? ⟨L.addr fi, 1, none⟩ = some (.int .i64 n2))
            (first | exact ⟨g0, g1⟩ | exact ⟨k0, k1⟩ | go_keep)
            (first | (go_at_call 37
                      refine (HCL.out w7.drew.drew rfl).mono ?_
                      rintro e w8 ⟨v', rfl, h8⟩
                      have hk8 := h8.from ((Kept.refl [] w7).drewN 2)
                      have k0 := hk8.keeps.cell g0 (by simp)
                      have k1 := hk8.keeps.cell g1 (by simp)
                      have H8 := Lib.hid hk8
                      clear h8 hk8))
          have he2 : w8.cell? ⟨w.heap.size, 2, none⟩ = some (.int .i64 tear) := H8.out.keeps.cell e2 (by simp)
          have hct := clamp_eq tear kp
          obtain ⟨tt, htt⟩ : ∃ tt, clamp tear kp = tt := ⟨_, rfl⟩
          rw [htt] at hct
          have htl : tt ≤ nk := by
            have h1 : clamp tear kp ≤ kp := Nat.min_le_right _ _
            have h2 := HNK.out
            omega
          have HTT := Lib.hid htt
          have hrow8 : w8.ownsRow 0 5 1 v' nk (bytesV ((a.file fi).b.take nk)) := by
            obtain ⟨_, ⟨hr, _⟩, _⟩ := H8.out
            exact hr
          have hclen : ((a.file fi).b.take nk).length = nk := by
            rw [List.length_take]; have := HN1.out; omega
          have HTR0 := Lib.hid (show Has [] w7 w8 (.row 5 1 v' nk (bytesV (torn ((a.file fi).b.take nk) 0))) by rw [torn_zero]; exact H8.out)
          obtain ⟨vp, vc, hvv⟩ := rowSlice hrow8
          subst hvv
          have HCLEN := Lib.hid hclen
          clear htt hrow8 hclen k0 k1 q0 q1 q2 q3 q4 q5 hcl H8
          generalize hcb : (a.file fi).b.take nk = cb at *
          have HCB := Lib.hid hcb
          clear hcb
          go_wp2_with fail
          go_loopg [13, 83] tt (fun kk v13 iv wq => ∃ m : Nat, m ≤ tt ∧ kk = tt - m ∧ iv = .int .i64 m ∧ Has [] w7 wq (.row 5 1 (.slice vp nk vc) nk (bytesV (torn cb m))))
          case atStart => exact ⟨0, Nat.zero_le _, rfl, rfl, HTR0.out⟩
          case round =>
            obtain ⟨m, hm, hkk, rfl, hT⟩ := hrel
            have HK3 := Lib.hid hkk
            clear hkk HTR0
            by_cases hlt3 : m < tt
            · have d3 : decide ((m : Int) < (tt : Int)) = true := by simp; omega
              have d3' : decide (m < tt) = true := by simp; omega
              have hmn : m < cb.length := by rw [HCLEN.out]; omega
              obtain ⟨_, ⟨hrT, _⟩, _⟩ := id hT
              obtain ⟨gg, gc, hvv2, _, _, _, hfz, hcl2⟩ := row_out hrT (by omega)
              obtain ⟨hvp, rfl⟩ : vp = some ⟨gg, 0, none⟩ ∧ vc = gc := by
                injection hvv2 with q1 q2 q3
                exact ⟨q1, q3⟩
              subst hvp
              have hcx : wr.cell? ⟨gg, nk - 1 - m, none⟩ = some (byteV (cb.getD (nk - 1 - m) 0)) := hcl2 _ _ (by
                unfold bytesV
                rw [List.getElem?_map]
                have := torn_get hmn
                rw [HCLEN.out] at this
                rw [this, List.getD_eq_getElem?_getD, List.getElem?_eq_getElem (by rw [HCLEN.out]; omega)]
                rfl)
              have hfx := hfz (nk - 1 - m)
              have hTs := hT.setRow (nk - 1 - m) (byteV (cb.getD (nk - 1 - m) 0 ^^^ 255)) (by omega)
              rw [show (bytesV (torn cb m)).set (nk - 1 - m) (byteV (cb.getD (nk - 1 - m) 0 ^^^ 255)) = bytesV (torn cb (m + 1)) by
                rw [← torn_succ hmn, HCLEN.out]; unfold bytesV; rw [List.map_set]] at hTs
              have HTs := Lib.hid hTs
              unfold byteV at hcx
              have hix : ((nk : Int) - 1 - (m : Int)) = ((nk - 1 - m : Nat) : Int) := by omega
              generalize hbq : nk - 1 - m = bq at *
              have hbl : bq < nk := by omega
              generalize cb.getD bq 0 = bb at *
              clear hT hrT hvv2 hfz hcl2 hTs hmn hbq
              have HXB := Lib.hid (xor_byte bb)
              go_wp2_with fail
              go_roundg (tt - (m + 1))
              case measure => rw [HK3.out]; omega
              case rel => exact ⟨m + 1, by omega, rfl, by go_num, by rw [HXB.out]; exact HTs.out⟩
            · have d3 : decide ((m : Int) < (tt : Int)) = false := by simp; omega
              have d3' : decide (m < tt) = false := by simp; omega
              obtain rfl : m = tt := by omega
              obtain ⟨oR, hRr, _, _, backR⟩ := HR7.out.right
              have hjl : j < l.length := (List.getElem?_eq_some_iff.1 HJ.out).1
              have hgd : l.getD j ([], 0) = (x.data.toList, fi) := by rw [List.getD_eq_getElem?_getD, HJ.out]; rfl
              have hxj : (a.file (l.getD j ([], 0)).2).left keep tear = ⟨torn cb m, nk⟩ := by
                rw [hgd]
                have h1 := left_eq (a.file fi) (by rw [HN1.out, HN2.out]; exact hsub) keep tear
                rw [HN1.out, HN2.out, HKP.out, HTT.out, HNK.out, HCB.out, HCLEN.out] at h1
                exact h1
              have htl2 : (torn cb m).length = nk := by rw [torn_len, HCLEN.out]
              have hbk := Has.madeBlk (w := wr) #[.slice vp nk vc, .int .i64 nk] 71 (fileCells (.slice vp nk vc) nk) 2 rfl (by
                intro i hi
                match i with
                | 0 | 1 => rfl
                | i + 2 => omega)
              have hB : Has [] w7 (wr.alloc (.cells #[.slice vp nk vc, .int .i64 nk] 71)) (fileP wr.heap.size (.slice vp nk vc) ((fun j => (a.file (l.getD j ([], 0)).2).left keep tear) j)) := by
                simp only [hxj]
                unfold fileP
                simp only [htl2]
                exact (hT.beside hbk).swap
              obtain ⟨u0, w10, hrun10, L3, hN⟩ := cro_put hRr HDO.out.rise HDO.out.len hjl hB x (by unfold nmAt; rw [hgd]) hxs
              have u0b : wr.cell? ⟨db2, 0, none⟩ = some (.map (some L2.mb)) := (cro_cell (hRr.quiet hT.keeps) 0 (by omega)).1
              have H10 := Lib.hid (backR _ _ hN)
              clear hRr backR hgd hxj htl2 hbk hB hN hT
              unfold ptr at hrun10
              go_wp2_with fail
              go_roundg cnt'
              case measure => exact hlt7
              case rel => exact ⟨fun z => lf z && !z.sameKey (Lit.string x.data.toList), L3, H10.out⟩

end Go.Proofs.Ytbankfdgoolbdaa
