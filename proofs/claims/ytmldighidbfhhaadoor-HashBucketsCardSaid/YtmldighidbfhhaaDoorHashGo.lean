/- The walks of an operation's steps: found, last, Step. -/
import Derived.Test.YtmldighidbfhhaaDoorHashOps
namespace Go.Proofs.YtmldighidbfhhaaDoor
open Go Go.RowKit
set_option linter.unusedVariables false

variable {o : List Nat} {w0 w : World} {b : Nat} {x : HtIx} {T : AHt} {ob : Nat} {tb : Option Addr} {q : AHop}

/-- A table and an operation upon it. -/
noncomputable def HtOp (b : Nat) (x : HtIx) (T : AHt) (ob : Nat) (q : AHop) : Part := (HtP b x T).sep (.hop ob (some ⟨b, 0, none⟩) q)

theorem ho_tab (h : Has o w0 w (HtOp b x T ob q)) : ∃ o', Has o' w w (HtP b x T) ∧ (∀ y ∈ o', y ∈ o ∨ w0.heap.size ≤ y) ∧ ∀ w' x' T', Has o' w w' (HtP b x' T') → Has o w0 w' (HtOp b x' T' ob q) := by
  obtain ⟨o1, h1, p1, _, b1⟩ := Has.left (A := HtP b x T) h
  exact ⟨o1, h1, p1, fun w' x' T' h' => b1 _ _ h'⟩
theorem ho_op (h : Has o w0 w (HtOp b x T ob q)) : ∃ o', Has o' w w (.hop ob (some ⟨b, 0, none⟩) q) ∧ ∀ w' q', Has o' w w' (.hop ob (some ⟨b, 0, none⟩) q') → Has o w0 w' (HtOp b x T ob q') := by
  obtain ⟨o1, h1, p1, _, b1⟩ := Has.right (A := HtP b x T) h
  exact ⟨o1, h1, fun w' q' h' => b1 _ _ h'⟩

theorem ho_next (h : Has o w0 w (HtOp b x T ob q)) (v : Int) : Has o w0 (w.setCell ⟨ob, 4, none⟩ (.int .i64 v)) (HtOp b x T ob { q with next := v }) := by
  obtain ⟨o1, h1, b1⟩ := ho_op h
  exact b1 _ _ (hop_next h1 v)
theorem ho_head (h : Has o w0 w (HtOp b x T ob q)) (v : Int) : Has o w0 (w.setCell ⟨ob, 5, none⟩ (.int .u64 v)) (HtOp b x T ob { q with head := v }) := by
  obtain ⟨o1, h1, b1⟩ := ho_op h
  exact b1 _ _ (hop_head h1 v)
theorem ho_cur (h : Has o w0 w (HtOp b x T ob q)) (v : Int) : Has o w0 (w.setCell ⟨ob, 6, none⟩ (.int .u64 v)) (HtOp b x T ob { q with cur := v }) := by
  obtain ⟨o1, h1, b1⟩ := ho_op h
  exact b1 _ _ (hop_cur h1 v)
theorem ho_own (h : Has o w0 w (HtOp b x T ob q)) (v : Int) : Has o w0 (w.setCell ⟨ob, 7, none⟩ (.int .u64 v)) (HtOp b x T ob { q with own := v }) := by
  obtain ⟨o1, h1, b1⟩ := ho_op h
  exact b1 _ _ (hop_own h1 v)
theorem ho_cells (h : Has o w0 w (HtOp b x T ob q)) : w.cell? ⟨ob, 0, none⟩ = some (.pointer (some ⟨b, 0, none⟩)) ∧ w.cell? ⟨ob, 1, none⟩ = some (.string q.key) ∧ w.cell? ⟨ob, 2, none⟩ = some (.int .i64 q.ref) ∧ w.cell? ⟨ob, 3, none⟩ = some (.bool q.puts) ∧
    w.cell? ⟨ob, 4, none⟩ = some (.int .i64 q.next) ∧ w.cell? ⟨ob, 5, none⟩ = some (.int .u64 q.head) ∧ w.cell? ⟨ob, 6, none⟩ = some (.int .u64 q.cur) ∧ w.cell? ⟨ob, 7, none⟩ = some (.int .u64 q.own) ∧ ∀ i, i < 10 → w.frozen? ⟨ob, i, none⟩ = false := by
  obtain ⟨o1, h1, _⟩ := ho_op h
  obtain ⟨c0, c1, c2, c3, c4, c5, c6, c7, _⟩ := hop_cells h1
  exact ⟨c0, c1, c2, c3, c4, c5, c6, c7, fun i hi => hop_free h1 i hi⟩
theorem ho_fields (h : Has o w0 w (HtOp b x T ob q)) : w.cell? ⟨b, 0, none⟩ = some (.pointer (some ⟨T.ab, 0, none⟩)) ∧ w.cell? ⟨b, 1, none⟩ = some x.hv ∧ w.cell? ⟨b, 2, none⟩ = some x.ev := by
  obtain ⟨o1, h1, _⟩ := ho_tab h
  exact HtP.fields h1
theorem ho_ends (h : Has o w0 w (HtOp b x T ob q)) (ref : Int) (had : Bool) (code : Int) :
    Calls Tryd.prog 36 #[.pointer (some ⟨ob, 0, none⟩), .int .i64 ref, .bool had, .int .i64 code] w fun e w' => e = .returned (.bool true) ∧ Has o w0 w' (HtOp b x T ob (q.ends ref had code)) := by
  obtain ⟨o1, h1, b1⟩ := ho_op h
  refine (ends_walk h1 ref had code).mono ?_
  rintro e w' ⟨rfl, h'⟩
  exact ⟨rfl, b1 _ _ h'⟩

set_option maxHeartbeats 1000000 in
set_option maxRecDepth 100000 in
theorem refused_no (h : Has o w0 w (HtOp b x T ob q)) (hk : keyB q.key = true) :
    Calls Tryd.prog 33 #[.pointer (some ⟨ob, 0, none⟩)] w fun e w' => e = .returned (.bool false) ∧ w' = w := by
  obtain ⟨c0, c1, _⟩ := ho_cells h
  have HK := Lib.hid (key_walk w q.key)
  rw [hk] at HK
  clear h
  go_enter Tryd.func33, Tryd.ntmps33
  go_wp2_with fail
  refine HK.out.mono ?_
  rintro e w' ⟨rfl, rfl⟩
  go_wp2_with fail
  go_ret
  exact ⟨rfl, rfl⟩

set_option maxHeartbeats 1000000 in
set_option maxRecDepth 100000 in
theorem found_none (w : World) (ob : Nat) :
    Calls Tryd.prog 37 #[.pointer (some ⟨ob, 0, none⟩), .int .u64 0] w fun e w' => e = .returned (.bool false) ∧ Kept [] w w' := by
  go_enter Tryd.func37, Tryd.ntmps37
  go_wp2_with fail
  go_quiet (fail)
  go_wp2_with fail
  go_ret
  exact ⟨rfl, (Kept.refl [] _).drewN _⟩

set_option maxHeartbeats 4000000 in
set_option maxRecDepth 100000 in
/-- An Insert that has come to a chain's end lays its entry. -/
theorem last_add (h : Has o w0 w (HtOp b x T ob q)) (hr : HtRep x.S x.C T) (hT : TabAt w0) (ho : 0 ∉ o) (hn : T.nE ≤ 65536) (hp : q.puts = true) (hw : q.own = 0) (hfree : T.used < T.size) :
    Calls Tryd.prog 38 #[.pointer (some ⟨ob, 0, none⟩)] w fun e w' => e = .returned (.bool false) ∧ ∃ x', HtRep x'.S x'.C (T.add q.key q.ref) ∧ Has o w0 w' (HtOp b x' (T.add q.key q.ref) ob { q with own := (T.nE : Int) + 1, next := 2 }) := by
  obtain ⟨c0, c1, c2, c3, c4, c5, c6, c7, zf⟩ := ho_cells h
  obtain ⟨f0, f1, f2⟩ := ho_fields h
  rw [hp] at c3
  rw [hw] at c7
  obtain ⟨o1, h1, p1, b1⟩ := ho_tab h
  have hTw : TabAt w := hT.kept h.keeps ho
  have HA := Lib.hid ((ht_alloc h1 hr hTw (tab_out hT ho p1) hfree).mono (R' := fun e w' => ∃ c, e = .returned (.tuple #[.int .i64 (c : Nat), .int .i64 0]) ∧ c < x.S.size ∧ x.S.get c = none ∧ Has o w0 w' (HtOp b { x with S := x.S.put c 0 } T ob q)) (by
    rintro e w' ⟨c, rfl, h2, h3, h4⟩
    exact ⟨c, rfl, h2, h3, b1 _ _ _ h4⟩))
  have HR := Lib.hid hr
  clear h h1 b1 hr hT ho p1 hTw hp hw
  go_enter Tryd.func38, Tryd.ntmps38
  go_wp2_with fail
  refine HA.out.mono ?_
  rintro e w2 ⟨c, rfl, hc, hg, h2⟩
  have HRA := Lib.hid (HR.out.add hc hg q.key q.ref)
  obtain ⟨c0, c1, c2, c3, c4, c5, c6, c7, zf2⟩ := ho_cells h2
  obtain ⟨f0, f1, f2⟩ := ho_fields h2
  have HX := Lib.hid h2
  have HAD := Lib.hid (fun (W : World) (hW : Has o w0 W (HtOp b { x with S := x.S.put c 0 } T ob q)) => show Calls Tryd.prog 44 #[.pointer (some ⟨b, 2, none⟩), .agg #[.string q.key, .int .i64 q.ref, .int .i64 (c : Nat)]] W fun e w' => e = .returned (.int .u64 ((T.nE : Int) + 1)) ∧ ∃ ev', Has o w0 w' (HtOp b { { x with S := x.S.put c 0 } with ev := ev', C := { x.C with e := fun j => if j = T.nE then c else x.C.e j } } (T.add q.key q.ref) ob q) by
    obtain ⟨o3, h3, _, b3⟩ := ho_tab hW
    refine (hadd_walk h3 hn q.key q.ref c).mono ?_
    rintro e w' ⟨rfl, ev', h'⟩
    exact ⟨rfl, ev', b3 _ _ _ h'⟩)
  clear h2 hc hg HA HR zf
  go_wp2_with fail
  go_region_held3 (fun w' => w'.cell? ⟨ob, 0, none⟩ = some (.pointer (some ⟨b, 0, none⟩)) ∧ w'.cell? ⟨ob, 1, none⟩ = some (.string q.key) ∧ w'.cell? ⟨ob, 2, none⟩ = some (.int .i64 q.ref))
    (first | exact ⟨c0, c1, c2⟩ | exact ⟨d0, d1, d2⟩ | exact ⟨e0, e1, e2⟩ | go_keep)
    (first | (go_at_call 44
              refine (HAD.out _ (HX.out.quiet ((Kept.refl _ _).drew))).mono ?_
              rintro e w4 ⟨rfl, ev', hX4⟩
              obtain ⟨d0, d1, d2, _, _, _, _, d7, zf4⟩ := ho_cells hX4
              have z7 := zf4 7 (by omega)
              have HX5 := Lib.hid (ho_own hX4 ((T.nE : Int) + 1))
              obtain ⟨e0, e1, e2, _, e4, _, _, _, zf5⟩ := ho_cells HX5.out
              clear hX4 zf4))
  all_goals (
    have z4 := zf5 4 (by omega)
    have HX6 := Lib.hid (ho_next HX5.out 2)
    clear zf5
    go_wp2_with fail
    go_ret
    exact ⟨rfl, { { x with S := x.S.put c 0 } with ev := ev', C := { x.C with e := fun j => if j = T.nE then c else x.C.e j } }, HRA.out, HX6.out⟩)

/-- A key's bucket. -/
def AHt.bk (T : AHt) (key : ByteArray) : Nat := (crcOf key % T.nB).toNat
theorem bk_eq (T : AHt) (key : ByteArray) (hB : 0 < T.nB) : crcOf key % (T.nB : Int) = (T.bk key : Int) ∧ T.bk key < T.nB := by
  have h1 := Int.emod_nonneg (crcOf key) (show (T.nB : Int) ≠ 0 by omega)
  have h2 := Int.emod_lt_of_pos (crcOf key) (show (0 : Int) < T.nB by omega)
  unfold AHt.bk
  omega

theorem ho_bucket (h : Has o w0 w (HtOp b x T ob q)) (hk : keyB q.key = true) (hB : 0 < T.nB) (hB9 : T.nB ≤ 256) :
    Calls Tryd.prog 9 #[.pointer (some ⟨b, 0, none⟩), .string q.key] w fun e w' => e = .returned (.int .i64 (T.bk q.key)) ∧ Kept [] w w' := by
  obtain ⟨o1, h1, _⟩ := ho_tab h
  have := bucket_key h1 q.key hk hB hB9
  rwa [(bk_eq T q.key hB).1] at this

theorem ho_load (h : Has o w0 w (HtOp b x T ob q)) (hr : HtRep x.S x.C T) (l : HLoc) (v : Int) (hl : T.at_ l = some v) :
    Calls Tryd.prog 28 #[.pointer (some ⟨T.ab, 0, none⟩), .int .i64 (x.C.of l)] w fun e w' => e = .returned (.tuple #[.int .u64 v, .int .i64 0]) ∧ Has o w0 w' (HtOp b { x with S := x.S.step } T.step ob q) := by
  obtain ⟨o1, h1, _, b1⟩ := ho_tab h
  refine (ht_load h1 hr l v hl).mono ?_
  rintro e w' ⟨rfl, h'⟩
  exact ⟨rfl, b1 _ _ _ h'⟩
theorem ho_store (h : Has o w0 w (HtOp b x T ob q)) (hr : HtRep x.S x.C T) (l : HLoc) (u v : Int) (hl : T.at_ l = some u) :
    Calls Tryd.prog 34 #[.pointer (some ⟨T.ab, 0, none⟩), .int .i64 (x.C.of l), .int .u64 v] w fun e w' => e = .returned (.int .i64 0) ∧ Has o w0 w' (HtOp b { x with S := x.S.step.put (x.C.of l) v } (T.step.set l v) ob q) := by
  obtain ⟨o1, h1, _, b1⟩ := ho_tab h
  refine (ht_store h1 hr l u v hl).mono ?_
  rintro e w' ⟨rfl, h'⟩
  exact ⟨rfl, b1 _ _ _ h'⟩
theorem ho_cas (h : Has o w0 w (HtOp b x T ob q)) (hr : HtRep x.S x.C T) (l : HLoc) (u v : Int) (hl : T.at_ l = some u) :
    Calls Tryd.prog 35 #[.pointer (some ⟨T.ab, 0, none⟩), .int .i64 (x.C.of l), .int .u64 u, .int .u64 v] w fun e w' => e = .returned (.tuple #[.bool true, .int .i64 0]) ∧ Has o w0 w' (HtOp b { x with S := x.S.step.put (x.C.of l) v } (T.step.set l v) ob q) := by
  obtain ⟨o1, h1, _, b1⟩ := ho_tab h
  refine (ht_cas h1 hr l u v hl).mono ?_
  rintro e w' ⟨rfl, h'⟩
  exact ⟨rfl, b1 _ _ _ h'⟩

theorem at_head {i : Nat} (hi : i < T.nB) : T.at_ (.head i) = some (T.H i) := by
  show (if i < T.nB then some (T.H i) else none) = _
  rw [if_pos hi]

set_option maxHeartbeats 8000000 in
set_option maxRecDepth 100000 in
/-- The first step of an Insert upon an empty bucket. -/
theorem step_first (h : Has o w0 w (HtOp b x T ob q)) (hr : HtRep x.S x.C T) (hT : TabAt w0) (ho : 0 ∉ o) (hk : keyB q.key = true) (hB : 0 < T.nB) (hB9 : T.nB ≤ 256) (hn : T.nE ≤ 65536)
    (hx : q.next = 0) (hp : q.puts = true) (hw : q.own = 0) (hfree : T.used < T.size) (hh : T.H (T.bk q.key) = 0) :
    Calls Tryd.prog 21 #[.pointer (some ⟨ob, 0, none⟩)] w fun e w' => e = .returned (.bool false) ∧ ∃ x', HtRep x'.S x'.C (T.step.add q.key q.ref) ∧ Has o w0 w' (HtOp b x' (T.step.add q.key q.ref) ob { q with head := 0, cur := 0, own := (T.nE : Int) + 1, next := 2 }) := by
  obtain ⟨c0, c1, c2, c3, c4, c5, c6, c7, zf⟩ := ho_cells h
  obtain ⟨f0, f1, f2⟩ := ho_fields h
  obtain ⟨hkk, hkb⟩ := bk_eq T q.key hB
  obtain ⟨_, ht, _, _⟩ := ho_tab h
  obtain ⟨g, cap, hhv, f3⟩ := HtP.headCell ht hkb
  rw [hx] at c4
  rw [hhv] at f1
  have HRF := Lib.hid (refused_no h hk)
  have HBK := Lib.hid (fun (W : World) (hW : Has o w0 W (HtOp b x T ob q)) => ho_bucket hW hk hB hB9)
  have hl : T.at_ (.head (T.bk q.key)) = some 0 := by rw [at_head hkb, hh]
  have HLD := Lib.hid (fun (W : World) (hW : Has o w0 W (HtOp b x T ob q)) => ho_load hW hr _ 0 hl)
  have HX := Lib.hid h
  have hb : 0 ≤ (T.bk q.key : Int) ∧ (T.bk q.key : Int) < (T.nB : Int) := by omega
  have HR := Lib.hid hr.step
  have HT := Lib.hid hT
  have HO := Lib.hid ho
  have HQ := Lib.hid (And.intro hx (And.intro hp (And.intro hw hfree)))
  generalize hkv : T.bk q.key = k at *
  clear h hr ht hl zf hh hhv hkk hkv hT ho hp hw hfree hx hk
  go_enter Tryd.func21, Tryd.ntmps21
  go_wp2_with fail
  refine wp_scope_ahead 0 rfl ?_
  go_wp2_with fail
  refine HRF.out.mono ?_
  rintro e w1 ⟨rfl, rfl⟩
  go_wp2_with fail
  go_region_held (fun w' => w'.cell? ⟨ob, 0, none⟩ = some (.pointer (some ⟨b, 0, none⟩)) ∧ w'.cell? ⟨ob, 1, none⟩ = some (.string q.key) ∧ w'.cell? ⟨b, 0, none⟩ = some (.pointer (some ⟨T.ab, 0, none⟩)) ∧ w'.cell? ⟨b, 1, none⟩ = some (.slice (some ⟨g, 0, none⟩) T.nB cap) ∧ w'.cell? ⟨g, k, none⟩ = some (.int .i64 (x.C.h k)))
    (first | exact ⟨c0, c1, f0, f1, f3⟩ | exact ⟨d0, d1, d2, d3, d4⟩ | go_keep)
    (first | (go_at_call 9
              refine (HBK.out _ (HX.out.quiet ((Kept.refl _ _).drew))).mono ?_
              rintro e w4 ⟨rfl, hk4⟩
              have d0 := hk4.cell (b := ob) (i := 0) c0 (by simp)
              have d1 := hk4.cell (b := ob) (i := 1) c1 (by simp)
              have d2 := hk4.cell (b := b) (i := 0) f0 (by simp)
              have d3 := hk4.cell (b := b) (i := 1) f1 (by simp)
              have d4 := hk4.cell (b := g) (i := k) f3 (by simp)
              have HX4 := Lib.hid ((HX.out.quiet ((Kept.refl _ _).drew)).quiet hk4)
              clear hk4))
  obtain ⟨_, _, _, _, d5, _, _, _, zf4⟩ := ho_cells HX4.out
  rw [HQ.out.1] at d5
  have z5 := zf4 5 (by omega)
  have HL4 := Lib.hid (HLD.out _ HX4.out)
  clear zf4
  go_wp2_with fail
  refine HL4.out.mono ?_
  rintro e w5 ⟨rfl, hX5⟩
  obtain ⟨_, _, _, _, _, _, _, _, zf5⟩ := ho_cells hX5
  have y5 := zf5 5 (by omega)
  have HX6 := Lib.hid (ho_head hX5 0)
  obtain ⟨_, _, _, _, _, g5, g6, _, zf6⟩ := ho_cells HX6.out
  have y6 := zf6 6 (by omega)
  have HX7 := Lib.hid (ho_cur HX6.out 0)
  obtain ⟨_, _, _, _, _, _, h6, _, _⟩ := ho_cells HX7.out
  have HF := Lib.hid (found_none ((w5.setCell ⟨ob, 5, none⟩ (.int .u64 0)).setCell ⟨ob, 6, none⟩ (.int .u64 0)) ob)
  clear hX5 zf5 zf6
  go_wp2_with fail
  go_step3
  refine And.intro rfl ?_
  show Code.wp _ _ _ _ _
  go_wp2_with fail
  refine HF.out.mono ?_
  rintro e w7 ⟨rfl, hk7⟩
  have HX8 := Lib.hid (HX7.out.quiet hk7)
  obtain ⟨_, _, _, i3, _, _, i6, i7, _⟩ := ho_cells HX8.out
  have HLA := Lib.hid (last_add HX8.out HR.out HT.out HO.out hn HQ.out.2.1 HQ.out.2.2.1 HQ.out.2.2.2)
  clear hk7
  go_wp2_with fail
  refine HLA.out.mono ?_
  rintro e w9 ⟨rfl, x', hr', hX9⟩
  have HX9 := Lib.hid hX9
  have HR9 := Lib.hid hr'
  clear hX9 hr'
  go_wp2_with fail
  rw [Exit.jump_ret]
  go_ret
  exact ⟨rfl, x', HR9.out, HX9.out⟩
end Go.Proofs.YtmldighidbfhhaaDoor
