/- The walks of take: what does not stay of a chain is taken away.
A sweep's step, told plainly: what it reads, what it takes away; the walk of Step.
The plain law of a sweep's run: its steps, what comes of them, how many are left. Nothing is claimed of a program here. -/
import Derived.Test.YtbodobdllchmgaaDoorMBetween6
import Derived.Test.YtbodobdllchmgaaDoorMBetween10
namespace Go.Proofs.YtbodobdllchmgaaDoor
open Go Go.RowKit
set_option linter.unusedVariables false

variable {o : List Nat} {w0 w : World} {b ob B : Nat} {A : ASt} {cur fv nv : Value} {mark gone n at_ : Int} {dn : Bool} {l vs bs es : List Int}

/-- A sweep under way beside whatever else. -/
noncomputable def Part.swx (b ob : Nat) (A : ASt) (cur : Value) (mark : Int) (fv : Value) (gone : Int) (nv : Value) (l : List Int) (E : Part) : Part := (Part.sw b ob A cur mark fv gone false nv l).sep E

variable {E : Part}

theorem swx_fields (h : Has o w0 w (.swx b ob A cur mark fv gone nv l E)) :
    w.cell? ⟨ob, 0, none⟩ = some (Pt b) ∧ w.cell? ⟨ob, 2, none⟩ = some (.int .i64 mark) ∧ w.cell? ⟨ob, 3, none⟩ = some fv ∧ w.cell? ⟨ob, 4, none⟩ = some (.int .i64 gone) ∧ w.frozen? ⟨ob, 3, none⟩ = false ∧ w.frozen? ⟨ob, 4, none⟩ = false := by
  obtain ⟨_, h1, _⟩ := Has.left (A := .sw b ob A cur mark fv gone false nv l) h
  obtain ⟨c0, _, c2, c3, c4, _, zf⟩ := sw_fields h1
  exact ⟨c0, c2, c3, c4, zf 3 (by omega), zf 4 (by omega)⟩
theorem swx_E (h : Has o w0 w (.swx b ob A cur mark fv gone nv l E)) : ∃ o', Has o' w w E := by
  obtain ⟨o1, h1, _⟩ := Has.right (A := .sw b ob A cur mark fv gone false nv l) h
  exact ⟨o1, h1⟩
theorem swx_next (h : Has o w0 w (.swx b ob A cur mark fv gone nv l E)) (fv' : Value) : Has o w0 (w.setCell ⟨ob, 3, none⟩ fv') (.swx b ob A cur mark fv' gone nv l E) := by
  obtain ⟨o1, h1, p1, _, b1⟩ := Has.left (A := .sw b ob A cur mark fv gone false nv l) h
  exact b1 _ _ (sw_put h1 cur fv' gone false 3 _ (by omega) ((opF_upd (Pt b) cur mark fv gone false).2.1 fv'))
theorem swx_gone (h : Has o w0 w (.swx b ob A cur mark fv gone nv l E)) (g : Int) : Has o w0 (w.setCell ⟨ob, 4, none⟩ (.int .i64 g)) (.swx b ob A cur mark fv g nv l E) := by
  obtain ⟨o1, h1, p1, _, b1⟩ := Has.left (A := .sw b ob A cur mark fv gone false nv l) h
  exact b1 _ _ (sw_put h1 cur fv g false 4 _ (by omega) ((opF_upd (Pt b) cur mark fv gone false).2.2.1 g))
/-- A call on the store, beside all else. -/
theorem swx_lift {f : FuncId} {args : Array Value} {v : Value} {Q : ASt → Prop} (h : Has o w0 w (.swx b ob A cur mark fv gone nv l E))
    (c : ∀ o1, Has o1 w w (.store b A) → Calls Tryd.prog f args w fun e w' => e = .returned v ∧ ∃ A', Q A' ∧ Has o1 w w' (.store b A')) :
    Calls Tryd.prog f args w fun e w' => e = .returned v ∧ ∃ A', Q A' ∧ Has o w0 w' (.swx b ob A' cur mark fv gone nv l E) := by
  obtain ⟨o1, h1, p1, _, b1⟩ := Has.left (A := .sw b ob A cur mark fv gone false nv l) h
  obtain ⟨o2, h2, p2, b2⟩ := sw_store h1
  refine (c o2 h2).mono ?_
  rintro e w' ⟨rfl, A', hq, h'⟩
  exact ⟨rfl, A', hq, b1 _ _ (b2 _ _ h')⟩

theorem cut_plain (A : ASt) (st : Int) (i : Nat) (post : List Nat) : ((A.at st).set (.next i) 0).goneAll post = (A.cutV (i + 1) post).at st := by
  rw [at_set_at, goneAll_at]; rfl
theorem drop_plain (A : ASt) (st : Int) (i j : Nat) (nx : Int) : ((A.at st).set (.head i) nx).goneV j = (A.dropV i (j + 1) nx).at st := by
  rw [at_set_at]; rfl
theorem cutV_at' (A : ASt) (st : Int) (v : Nat) (post : List Nat) : (A.at st).cutV v post = (A.cutV v post).at st := by
  unfold ASt.cutV; rw [at_set_at, goneAll_at]
theorem dropV_at' (A : ASt) (st : Int) (i v : Nat) (nx : Int) : (A.at st).dropV i v nx = (A.dropV i v nx).at st := by
  unfold ASt.dropV; rw [at_set_at]; rfl

theorem swx_cut (h : Has o w0 w (.swx b ob A cur mark fv gone nv l E)) (i : Nat) (nx : Int) (hl : A.at_ (.next i) = some nx) (hV : A.nV ≤ 1000000000) (post : List Nat) (hpost : post = chainF A nx.toNat nx) :
    Calls Tryd.prog 85 #[Pt b, .int .i64 ((i : Int) + 1)] w fun e w' => e = .returned (.tuple #[.int .i64 (post.length : Nat), .int .i64 0]) ∧ ∃ st, Has o w0 w' (.swx b ob ((A.cutV (i + 1) post).at st) cur mark fv gone nv l E) := by
  refine (swx_lift (v := .tuple #[.int .i64 (post.length : Nat), .int .i64 0]) (Q := fun A' => ∃ st, A' = (A.cutV (i + 1) post).at st) h fun o1 h1 => (cut_at h1 i nx hl hV).mono ?_).mono ?_
  · rintro e w' ⟨rfl, st, h'⟩
    rw [cut_plain, ← hpost] at h'
    exact ⟨by rw [hpost], _, ⟨st, rfl⟩, h'⟩
  · rintro e w' ⟨rfl, A', ⟨st, rfl⟩, h'⟩
    exact ⟨rfl, st, h'⟩
theorem swx_drop (h : Has o w0 w (.swx b ob A cur mark fv gone nv l E)) (i j : Nat) (nx : Int) (hh : A.at_ (.head i) = some ((j : Int) + 1)) (hl : A.at_ (.next j) = some nx) (hV : A.nV ≤ 1000000000) :
    Calls Tryd.prog 86 #[Pt b, .int .i64 ((i : Int) + 1)] w fun e w' => e = .returned (.int .i64 0) ∧ ∃ st, Has o w0 w' (.swx b ob ((A.dropV i (j + 1) nx).at st) cur mark fv gone nv l E) := by
  refine (swx_lift (v := .int .i64 0) (Q := fun A' => ∃ st, A' = (A.dropV i (j + 1) nx).at st) h fun o1 h1 => (drop_at h1 i j nx hh hl hV).mono ?_).mono ?_
  · rintro e w' ⟨rfl, st, h'⟩
    rw [drop_plain] at h'
    exact ⟨rfl, _, ⟨st, rfl⟩, h'⟩
  · rintro e w' ⟨rfl, A', ⟨st, rfl⟩, h'⟩
    exact ⟨rfl, st, h'⟩
theorem swx_head (h : Has o w0 w (.swx b ob A cur mark fv gone nv l E)) (i : Nat) (v : Int) (hl : A.at_ (.head i) = some v) (hi9 : v < 9223372036854775808) :
    Calls Tryd.prog 25 #[Pt b, .int .i64 ((i : Int) + 1)] w fun e w' => e = .returned (.tuple #[.int .i64 v, .int .i64 0]) ∧ Has o w0 w' (.swx b ob A.step cur mark fv gone nv l E) := by
  refine (swx_lift (v := .tuple #[.int .i64 v, .int .i64 0]) (Q := fun A' => A' = A.step) h fun o1 h1 => (head_at h1 i v hl hi9).mono ?_).mono ?_
  · rintro e w' ⟨rfl, h'⟩
    exact ⟨rfl, _, rfl, h'⟩
  · rintro e w' ⟨rfl, A', rfl, h'⟩
    exact ⟨rfl, h'⟩

set_option maxHeartbeats 2000000 in
set_option maxRecDepth 100000 in
/-- All stay. -/
theorem take_all (h : Has o w0 w (.swx b ob A cur mark fv gone nv l E)) (n : Int) (p : Option Addr) (cap m : Nat) :
    Calls Tryd.prog 79 #[Pt ob, .int .i64 n, .slice p m cap, .int .i64 (m : Nat)] w fun e w' => e = .returned (.bool false) ∧ Has o w0 w' (.swx b ob A cur mark (fNode ob) gone nv l E) := by
  obtain ⟨_, _, c3, _, z3, _⟩ := swx_fields h
  have HF := Lib.hid (swx_next h (fNode ob))
  unfold fNode at HF
  clear h
  go_enter Tryd.func79, Tryd.ntmps79
  go_wp2_with fail
  go_ret
  exact ⟨rfl, HF.out⟩

theorem row_cell {v : Value} {m : Nat} {f : Nat → Value} {p : Option Addr} {cap : Nat} (h : RowAt w v m f) (hv : v = .slice p m cap) {k : Nat} (hk : k < m) : ∃ g off, p = some ⟨g, off, none⟩ ∧ w.cell? ⟨g, off + k, none⟩ = some (f k) := by
  obtain ⟨p2, cap2, e2, hc⟩ := h
  rw [hv] at e2
  obtain ⟨rfl, rfl⟩ : p = p2 ∧ cap = cap2 := by simpa using e2
  obtain ⟨g, off, e, _, hcell⟩ := hc (by omega)
  exact ⟨g, off, e, hcell k hk⟩

set_option maxHeartbeats 4000000 in
set_option maxRecDepth 100000 in
/-- Some stay: all behind the last of them go. -/
theorem take_some (h : Has o w0 w (.swx b ob A cur mark fv gone nv l E)) (n : Int) (p : Option Addr) (cap m : Nat) (f : Nat → Int) (hE : ∀ o w, Has o w w E → RowAt w (.slice p m cap) m (fun k => .int .i64 (f k)))
    (s i : Nat) (nx : Int) (hs : s + 1 < m) (hm : m ≤ 1000000000) (hv : f s = (i : Int) + 1) (hl : A.at_ (.next i) = some nx) (hV : A.nV ≤ 1000000000)
    (hg0 : 0 ≤ gone) (hg1 : gone ≤ 1000000000) (post : List Nat) (hpost : post = chainF A nx.toNat nx) (hpl : post.length ≤ 1000000000) :
    Calls Tryd.prog 79 #[Pt ob, .int .i64 n, .slice p m cap, .int .i64 ((s : Nat) + 1)] w fun e w' => e = .returned (.bool false) ∧ ∃ st, Has o w0 w' (.swx b ob ((A.cutV (i + 1) post).at st) cur mark (fNode ob) (gone + (post.length : Nat)) nv l E) := by
  obtain ⟨_, _, c3, _, z3, _⟩ := swx_fields h
  have hX := swx_next h (fNode ob)
  obtain ⟨x0, _, _, _, _, _⟩ := swx_fields hX
  obtain ⟨_, hE1⟩ := swx_E hX
  obtain ⟨g, off, rfl, cg⟩ := row_cell (hE _ _ hE1) rfl (k := s) (by omega)
  rw [hv] at cg
  have HEE := Lib.hid hE
  have HCUT := Lib.hid (fun (w' : World) (hw : Has o w0 w' (.swx b ob A cur mark (fNode ob) gone nv l E)) => swx_cut hw i nx hl hV post hpost)
  have HX := Lib.hid hX
  have HV := Lib.hid hv
  unfold fNode at HX x0 cg HCUT
  have d1 : decide ((s : Int) + 1 = (m : Int)) = false := by simp; omega
  have d1' : ((s : Int) + 1 == (m : Int)) = false := by simp; omega
  have d2 : decide ((s : Int) + 1 > 0) = true := by simp only [decide_eq_true_eq]; omega
  have hb : 0 ≤ (s : Int) ∧ (s : Int) < (m : Int) := by omega
  have hb1 : (0 : Int) ≤ (s : Int) := by omega
  have hb2 : (s : Int) < (m : Int) := by omega
  have e7 : IntKind.i64.wrap (s : Int) = (s : Int) := by unfold IntKind.wrap; simp [IntKind.bits, IntKind.signed]; omega
  have e8 : IntKind.i64.wrap ((s : Int) + 1 - 1) = (s : Int) := by rw [show (s : Int) + 1 - 1 = s by omega]; exact e7
  clear h hX hE1 hE hl hpost hv
  go_enter Tryd.func79, Tryd.ntmps79
  go_wp2_with fail
  go_region_held3 (fun w' => w'.cell? ⟨ob, 0, none⟩ = some (Pt b) ∧ w'.cell? ⟨g, off + s, none⟩ = some (.int .i64 ((i : Int) + 1)))
    (first | exact ⟨x0, cg⟩ | exact ⟨y0, cy⟩)
    (first | (go_at_call 85
              refine (HCUT.out _ (HX.out.quiet ((Kept.refl _ _).drew))).mono ?_
              rintro e w4 ⟨rfl, st, hX4⟩
              obtain ⟨y0, _, _, y4, _, z4⟩ := swx_fields hX4
              obtain ⟨_, hE4⟩ := swx_E hX4
              obtain ⟨g4, off4, hg4, cy⟩ := row_cell (HEE.out _ _ hE4) rfl (k := s) (by omega)
              obtain ⟨rfl, rfl⟩ : g = g4 ∧ off = off4 := by simpa using hg4
              rw [HV.out] at cy
              have HX4 := Lib.hid hX4
              clear hX4 hE4))
  have HF := Lib.hid (swx_gone HX4.out (gone + (post.length : Nat)))
  have e9 : IntKind.i64.wrap (gone + (post.length : Nat)) = gone + (post.length : Nat) := by unfold IntKind.wrap; simp [IntKind.bits, IntKind.signed]; omega
  clear x0 cg y0 cy HCUT HX
  go_wp2_with fail
  go_ret
  exact ⟨rfl, st, HF.out⟩

set_option maxHeartbeats 4000000 in
set_option maxRecDepth 100000 in
/-- None stays, but the node has a newer one. -/
theorem take_not (h : Has o w0 w (.swx b ob A cur mark fv gone nv l E)) (i : Nat) (p : Option Addr) (cap m : Nat) (f : Nat → Int) (hE : ∀ o w, Has o w w E → RowAt w (.slice p m cap) m (fun k => .int .i64 (f k)))
    (hm : 0 < m) (u v : Int) (hu : f 0 = u) (hh : A.at_ (.head i) = some v) (hne : v ≠ u) (hv9 : v < 9223372036854775808) :
    Calls Tryd.prog 79 #[Pt ob, .int .i64 ((i : Int) + 1), .slice p m cap, .int .i64 0] w fun e w' => e = .returned (.bool false) ∧ Has o w0 w' (.swx b ob A.step cur mark (fNode ob) gone nv l E) := by
  obtain ⟨_, _, c3, _, z3, _⟩ := swx_fields h
  have hX := swx_next h (fNode ob)
  obtain ⟨x0, _, _, _, _, _⟩ := swx_fields hX
  have HEE := Lib.hid hE
  have HH := Lib.hid (swx_head hX i v hh hv9)
  have HU := Lib.hid hu
  unfold fNode at HH x0
  have d1 : decide ((0 : Int) = (m : Int)) = false := by simp only [decide_eq_false_iff_not]; omega
  have d1' : ((0 : Int) == (m : Int)) = false := by simp only [beq_eq_false_iff_ne]; omega
  have d2 : decide (v = u) = false := by simpa using hne
  have d2' : (v == u) = false := by simpa using hne
  have hm1 : (0 : Int) < (m : Int) := by omega
  have hm2 : 0 ≤ (0 : Int) ∧ (0 : Int) < (m : Int) := by omega
  clear h hX hE hh hu
  go_enter Tryd.func79, Tryd.ntmps79
  go_wp2_with fail
  refine HH.out.mono ?_
  rintro e w4 ⟨rfl, hX4⟩
  obtain ⟨_, hE4⟩ := swx_E hX4
  obtain ⟨g, off, rfl, cg⟩ := row_cell (HEE.out _ _ hE4) rfl (k := 0) (by omega)
  rw [HU.out, Nat.add_zero] at cg
  have HX4 := Lib.hid hX4
  clear hX4 hE4 x0
  go_wp2_with fail
  go_ret
  exact ⟨rfl, HX4.out⟩

set_option maxHeartbeats 4000000 in
set_option maxRecDepth 100000 in
/-- None stays: the whole chain goes. -/
theorem take_drop (h : Has o w0 w (.swx b ob A cur mark fv gone nv l E)) (i j : Nat) (p : Option Addr) (cap m : Nat) (f : Nat → Int) (hE : ∀ o w, Has o w w E → RowAt w (.slice p m cap) m (fun k => .int .i64 (f k)))
    (hm : 0 < m) (nx : Int) (hu : f 0 = (j : Int) + 1) (hh : A.at_ (.head i) = some ((j : Int) + 1)) (hl : A.at_ (.next j) = some nx) (hV : A.nV ≤ 1000000000)
    (hg0 : 0 ≤ gone) (hg1 : gone ≤ 1000000000) (post : List Nat) (hpost : post = chainF A nx.toNat nx) (hpl : post.length ≤ 1000000000)
    (hh2 : (A.cutV (j + 1) post).at_ (.head i) = some ((j : Int) + 1)) (hl2 : (A.cutV (j + 1) post).at_ (.next j) = some 0) (hj9 : (j : Int) + 1 < 9223372036854775808) :
    Calls Tryd.prog 79 #[Pt ob, .int .i64 ((i : Int) + 1), .slice p m cap, .int .i64 0] w fun e w' => e = .returned (.bool false) ∧ ∃ st, Has o w0 w' (.swx b ob (((A.cutV (j + 1) post).dropV i (j + 1) 0).at st) cur mark (fNode ob) (gone + ((post.length : Nat) + 1)) nv l E) := by
  obtain ⟨_, _, c3, _, z3, _⟩ := swx_fields h
  have hX := swx_next h (fNode ob)
  obtain ⟨x0, _, _, _, _, _⟩ := swx_fields hX
  have HEE := Lib.hid hE
  have HH := Lib.hid (swx_head hX i _ hh hj9)
  have HU := Lib.hid hu
  have HL := Lib.hid hl
  have HP := Lib.hid hpost
  have HH2 := Lib.hid hh2
  have HL2 := Lib.hid hl2
  unfold fNode at HH x0
  have d1 : decide ((0 : Int) = (m : Int)) = false := by simp only [decide_eq_false_iff_not]; omega
  have d1' : ((0 : Int) == (m : Int)) = false := by simp only [beq_eq_false_iff_ne]; omega
  have hm1 : (0 : Int) < (m : Int) := by omega
  have hm2 : 0 ≤ (0 : Int) ∧ (0 : Int) < (m : Int) := by omega
  clear h hX hE hh hu hl hpost hh2 hl2
  go_enter Tryd.func79, Tryd.ntmps79
  go_wp2_with fail
  refine HH.out.mono ?_
  rintro e w4 ⟨rfl, hX4⟩
  obtain ⟨_, hE4⟩ := swx_E hX4
  obtain ⟨g, off, rfl, cg⟩ := row_cell (HEE.out _ _ hE4) rfl (k := 0) (by omega)
  rw [HU.out, Nat.add_zero] at cg
  obtain ⟨y0, _⟩ := swx_fields hX4
  have HC := Lib.hid (swx_cut hX4 j nx HL.out hV post (by rw [HP.out]; exact (chainF_at A (wrap64 (A.steps + 1)) _ _).symm))
  clear hX4 hE4 x0
  go_wp2_with fail
  refine HC.out.mono ?_
  rintro e w5 ⟨rfl, st, hX5⟩
  rw [show A.step = A.at (wrap64 (A.steps + 1)) from rfl, cutV_at'] at hX5
  have hX5' : Has o w0 w5 (.swx b ob ((A.cutV (j + 1) post).at st) cur mark (.func (.func 32) #[Pt ob] #[]) gone nv l E) := hX5
  obtain ⟨u0, _⟩ := swx_fields hX5'
  have HD := Lib.hid (swx_drop hX5' i j 0 (show ((A.cutV (j + 1) post).at st).at_ _ = _ from HH2.out) HL2.out (by show (A.cutV (j + 1) post).nV ≤ _; rw [(cutV_N A _ _).2.2]; exact hV))
  clear hX5 hX5' y0 HC
  go_wp2_with fail
  refine HD.out.mono ?_
  rintro e w6 ⟨rfl, st2, hX6⟩
  rw [dropV_at'] at hX6
  have hX6' : Has o w0 w6 (.swx b ob (((A.cutV (j + 1) post).dropV i (j + 1) 0).at st2) cur mark (.func (.func 32) #[Pt ob] #[]) gone nv l E) := hX6
  obtain ⟨v0, _, _, v4, _, z4⟩ := swx_fields hX6'
  have HF := Lib.hid (swx_gone hX6' (gone + ((post.length : Nat) + 1)))
  have e8 : IntKind.i64.wrap ((post.length : Int) + 1) = (post.length : Int) + 1 := by unfold IntKind.wrap; simp [IntKind.bits, IntKind.signed]; omega
  have e9 : IntKind.i64.wrap (gone + ((post.length : Int) + 1)) = gone + ((post.length : Int) + 1) := by unfold IntKind.wrap; simp [IntKind.bits, IntKind.signed]; omega
  clear hX6 hX6' u0 HD
  go_wp2_with fail
  go_ret
  exact ⟨rfl, st2, HF.out⟩

/-- The variables' part with the piles' own slices. -/
noncomputable def envV (B ob : Nat) (n at_ : Int) (vs bs es : List Int) (v bv ev : Value) : Part := .all 10 (updP (updP (updP (envP B ob n at_ vs bs es) 2 ((Part.box (B + 2) 119 v).sep (.ints v vs))) 3 ((Part.box (B + 3) 120 bv).sep (.u64s bv bs))) 4 ((Part.box (B + 4) 120 ev).sep (.u64s ev es)))

theorem swc_open (h : Has o w0 w (.swc b ob B A cur mark fv gone nv l n at_ vs bs es)) : ∃ p cap bv ev, Has o w0 w (.swx b ob A cur mark fv gone nv l (envV B ob n at_ vs bs es (.slice p vs.length cap) bv ev)) := by
  obtain ⟨o1, h1, p1, _, b1⟩ := Has.right (A := .sw b ob A cur mark fv gone false nv l) h
  obtain ⟨o2, h2, p2, _, b2⟩ := Has.pick h1 (i := 2) (by omega)
  obtain ⟨v, h3⟩ := Has.exOut (f := fun v : Value => (Part.blk (B + 2) 1 119 fun _ => v).sep (.ints v vs)) h2
  obtain ⟨_, h5, _⟩ := h3.right
  obtain ⟨p, cap, e⟩ := ap_ints h5
  subst e
  have h4 := b2 _ _ h3
  obtain ⟨o5, h5, p5, _, b5⟩ := Has.pick h4 (i := 3) (by omega)
  obtain ⟨bv, h6⟩ := Has.exOut (f := fun v : Value => (Part.blk (B + 3) 1 120 fun _ => v).sep (.u64s v bs)) h5
  have h7 := b5 _ _ h6
  obtain ⟨o8, h8, p8, _, b8⟩ := Has.pick h7 (i := 4) (by omega)
  obtain ⟨ev, h9⟩ := Has.exOut (f := fun v : Value => (Part.blk (B + 4) 1 120 fun _ => v).sep (.u64s v es)) h8
  exact ⟨p, cap, bv, ev, b1 _ _ (b8 _ _ h9)⟩
theorem envV_two {v bv ev : Value} (h : Has o w w (envV B ob n at_ vs bs es v bv ev)) : w.cell? ⟨B, 0, none⟩ = some (Pt ob) ∧ w.cell? ⟨B + 1, 0, none⟩ = some (.int .i64 n) ∧ w.cell? ⟨B + 2, 0, none⟩ = some v ∧ w.cell? ⟨B + 3, 0, none⟩ = some bv ∧ w.cell? ⟨B + 4, 0, none⟩ = some ev ∧ (∃ o, Has o w w (.ints v vs)) ∧ (∃ o, Has o w w (.u64s bv bs)) ∧ (∃ o, Has o w w (.u64s ev es)) := by
  obtain ⟨_, h0, _⟩ := Has.pick h (i := 0) (by omega)
  obtain ⟨_, h1, _⟩ := Has.pick h (i := 1) (by omega)
  obtain ⟨_, h2, _⟩ := Has.pick h (i := 2) (by omega)
  obtain ⟨_, h3, _⟩ := Has.pick h (i := 3) (by omega)
  obtain ⟨_, h4, _⟩ := Has.pick h (i := 4) (by omega)
  have h2' : Has _ w w ((Part.box (B + 2) 119 v).sep (.ints v vs)) := h2
  have h3' : Has _ w w ((Part.box (B + 3) 120 bv).sep (.u64s bv bs)) := h3
  have h4' : Has _ w w ((Part.box (B + 4) 120 ev).sep (.u64s ev es)) := h4
  obtain ⟨_, a2, _⟩ := h2'.left
  obtain ⟨_, a3, _⟩ := h3'.left
  obtain ⟨_, a4, _⟩ := h4'.left
  obtain ⟨_, d2, _⟩ := h2'.right
  obtain ⟨_, d3, _⟩ := h3'.right
  obtain ⟨_, d4, _⟩ := h4'.right
  exact ⟨(Has.boxCell (c := B + 0) h0).1, (Has.boxCell (c := B + 1) h1).1, a2.boxCell.1, a3.boxCell.1, a4.boxCell.1, ⟨_, d2⟩, ⟨_, d3⟩, ⟨_, d4⟩⟩
theorem envV_row {bv ev : Value} (p : Option Addr) (cap : Nat) (o : List Nat) (w : World) (h : Has o w w (envV B ob n at_ vs bs es (.slice p vs.length cap) bv ev)) : RowAt w (.slice p vs.length cap) vs.length (fun k => .int .i64 (vs.getD k 0)) := by
  obtain ⟨_, _, _, _, _, ⟨_, h5⟩, _⟩ := envV_two h
  exact h5.intsAt
theorem u64s_row {v : Value} (h : Has o w0 w (.u64s v bs)) (hr : ∀ x ∈ bs, 0 ≤ x ∧ x < 18446744073709551616) : ∃ p cap, v = .slice p bs.length cap ∧ WRow w p bs.length cap (fun k => bs.getD k 0) := by
  obtain ⟨p, cap, e, h3, h4, h5⟩ := u64_ints h
  subst e
  refine ⟨p, cap, rfl, fun e => ?_, h3, h4, fun i hi => hr _ ?_, fun hpos => ?_⟩
  · have := h5 e; exact ⟨by omega, this⟩
  · rw [List.getD_eq_getElem?_getD, List.getElem?_eq_getElem hi]; exact List.getElem_mem hi
  · obtain ⟨p', cap', e', hc⟩ := Has.rowAt h (fun k => .int .u64 (bs.getD k 0)) fun i hi => by
      rw [List.getElem?_map, List.getD_eq_getElem?_getD, List.getElem?_eq_getElem hi]; rfl
    obtain ⟨b1, off, hp, hb, hcell⟩ := hc hpos
    obtain ⟨rfl, rfl⟩ : p = p' ∧ cap = cap' := by simpa using e'
    exact ⟨b1, off, hp, hb, hcell⟩

set_option maxHeartbeats 4000000 in
set_option maxRecDepth 100000 in
/-- The step behind a chain: how many stay, and what goes. -/
theorem over_walk {R : ASt → Int → Prop} (h : Has o w0 w (.swc b ob B A cur mark fv gone nv l n at_ vs bs es)) (hb : ∀ x ∈ bs, 0 ≤ x ∧ x < 18446744073709551616) (he : ∀ x ∈ es, 0 ≤ x ∧ x < 18446744073709551616)
    (hl1 : bs.length = vs.length) (hl2 : es.length = vs.length) (K : Nat) (hK : K = keepF (fun k => bs.getD k 0) (fun k => es.getD k 0) mark 0 vs.length)
    (hT : ∀ w1 E p cap, (∀ o w, Has o w w E → RowAt w (.slice p vs.length cap) vs.length (fun k => .int .i64 (vs.getD k 0))) → Has o w0 w1 (.swx b ob A cur mark fv gone nv l E) →
      Calls Tryd.prog 79 #[Pt ob, .int .i64 n, .slice p vs.length cap, .int .i64 (K : Nat)] w1 fun e w' => e = .returned (.bool false) ∧ ∃ A' g', R A' g' ∧ Has o w0 w' (.swx b ob A' cur mark (fNode ob) g' nv l E)) :
    Calls Tryd.prog 78 #[Pt B, Pt (B + 1), Pt (B + 2), Pt (B + 3), Pt (B + 4)] w fun e w' => e = .returned (.bool false) ∧ ∃ A' g', R A' g' ∧ Has o w0 w' (.sw b ob A' cur mark (fNode ob) g' false nv l) := by
  obtain ⟨p, cap, bv, ev, hO⟩ := swc_open h
  obtain ⟨_, hE⟩ := swx_E hO
  obtain ⟨q0, q1, q2, q3, q4, _, ⟨_, hbs⟩, ⟨_, hes⟩⟩ := envV_two hE
  obtain ⟨pb, cb, rfl, rb⟩ := u64s_row hbs hb
  obtain ⟨pe, ce, rfl, re⟩ := u64s_row hes he
  obtain ⟨_, c2, _⟩ := swx_fields hO
  have HO := Lib.hid hO
  have HT := Lib.hid (fun (W : World) (k : Kept [] w W) => hT W _ p cap (envV_row p cap) (hO.quiet k))
  have HKP := Lib.hid (fun (W : World) (k : Kept [] w W) => show Calls Tryd.prog 14 #[.slice pb bs.length cb, .slice pe es.length ce, .int .i64 mark] W fun e w' => e = .returned (.int .i64 (K : Nat)) ∧ w' = W from by
    rw [hK]
    exact keep_walk W pb pe bs.length es.length cb ce _ _ mark (rb.kept k) (re.kept k) vs.length (by rw [hl1, hl2]; simp))
  clear h hE hb he rb re hO hT hK hl1 hl2 hbs hes
  go_enter Tryd.func78, Tryd.ntmps78
  go_wp2_with fail
  go_region_held3 (fun w' => w'.cell? ⟨B, 0, none⟩ = some (Pt ob) ∧ w'.cell? ⟨B + 1, 0, none⟩ = some (.int .i64 n) ∧ w'.cell? ⟨B + 2, 0, none⟩ = some (.slice p vs.length cap) ∧ w'.cell? ⟨B + 3, 0, none⟩ = some (.slice pb bs.length cb) ∧ w'.cell? ⟨B + 4, 0, none⟩ = some (.slice pe es.length ce) ∧ w'.cell? ⟨ob, 2, none⟩ = some (.int .i64 mark))
    (first | exact ⟨q0, q1, q2, q3, q4, c2⟩ | exact ⟨r0, r1, r2, r3, r4, d2⟩)
    (first | (go_at_call 14
              refine (HKP.out _ (by first | exact (Kept.refl _ _) | exact (Kept.refl _ _).drew)).mono ?_
              rintro e w4 ⟨rfl, rfl⟩)
           | (go_at_call 79
              refine (HT.out _ (by first | exact (Kept.refl _ _) | exact (Kept.refl _ _).drew)).mono ?_
              rintro e w4 ⟨rfl, A', g', hR, hX4⟩
              obtain ⟨_, hE4⟩ := swx_E hX4
              obtain ⟨r0, r1, r2, r3, r4, _⟩ := envV_two hE4
              obtain ⟨_, d2, _⟩ := swx_fields hX4
              have HX4 := Lib.hid hX4
              clear hX4 hE4))
  go_wp2_with fail
  go_ret
  exact ⟨rfl, A', g', hR, HX4.out.fst⟩
end Go.Proofs.YtbodobdllchmgaaDoor
namespace Go.Proofs.YtbodobdllchmgaaDoor
open Go Go.RowKit
set_option linter.unusedVariables false

variable {o : List Nat} {w0 w : World} {b ob B : Nat} {A : ASt} {cur fv nv : Value} {mark gone n at_ : Int} {l vs bs es : List Int}

/-- What a sweep does next. -/
inductive PC where
  | node
  | beg (i : Nat) (vs : List Nat) (u : Nat) (r : List Nat)
  | en (i : Nat) (vs : List Nat) (u : Nat) (r : List Nat)
  | beh (i : Nat) (vs : List Nat) (u : Nat) (r : List Nat)
  | tk (i : Nat) (vs : List Nat)

/-- A sweep: the store, its chains, how many went, the nodes to come, what is next. -/
structure Sw where
  A : ASt
  ch : Nat → List Nat
  gone : Nat
  rest : List Int
  pc : PC

def PC.ok (A : ASt) (ch : Nat → List Nat) : PC → Prop
  | .node => True
  | .beg i vs u r | .en i vs u r | .beh i vs u r => i < A.nN ∧ ∃ pre, ch i = pre ++ (vs ++ u :: r)
  | .tk i vs => i < A.nN ∧ vs ≠ [] ∧ ∃ pre, ch i = pre ++ vs

/-- What is taken away of a chain that was seen. -/
def tkA (mark : Int) (A : ASt) (ch : Nat → List Nat) (i : Nat) (vs : List Nat) : ASt × (Nat → List Nat) × Nat :=
  let s := stayL A mark vs
  if s = vs.length then (A, ch, 0)
  else if 0 < s then (A.cutV (vs.getD (s - 1) 0) (vs.drop s), updL ch i ((ch i).take ((ch i).length - (vs.length - s))), vs.length - s)
  else if ch i = vs then ((A.cutV (vs.getD 0 0) (vs.drop 1)).dropV i (vs.getD 0 0) 0, updL ch i [], vs.length)
  else (A, ch, 0)

def nxt (mark : Int) (S : Sw) : Sw :=
  match S.pc with
  | .node => match S.rest with
    | [] => S
    | x :: rest => match (if S.A.isN x = true then S.ch (x - 1).toNat else []) with
      | [] => { S with rest := rest }
      | u :: r => { S with rest := rest, pc := .beg (x - 1).toNat [] u r }
  | .beg i vs u r => { S with pc := .en i vs u r }
  | .en i vs u r => { S with pc := .beh i vs u r }
  | .beh i vs u r => match r with
    | [] => { S with pc := .tk i (vs ++ [u]) }
    | u' :: r' => { S with pc := .beg i (vs ++ [u]) u' r' }
  | .tk i vs => let t := tkA mark S.A S.ch i vs
    { A := t.1, ch := t.2.1, gone := S.gone + t.2.2, rest := S.rest, pc := .node }

def Sw.fin (S : Sw) : Bool := match S.pc with
  | .node => S.rest.isEmpty
  | _ => false

def ints (l : List Nat) : List Int := l.map fun v : Nat => (v : Int)

/-- The slice of nodes that are to come. -/
def CurAt (cur nv : Value) (l rest : List Int) : Prop :=
  (rest = [] ∧ ∃ p c, cur = .slice p 0 c) ∨ ∃ g k m c cap, nv = .slice (some ⟨g, 0, none⟩) l.length cap ∧ cur = .slice (some ⟨g, k, none⟩) (m + 1) (c + 1) ∧ k + (m + 1) = l.length ∧ m ≤ c ∧ c < 9223372036854775807 ∧ l.drop k = rest

/-- How it lies in memory. -/
def SwAt (o : List Nat) (w0 w : World) (b ob : Nat) (mark : Int) (nv : Value) (l : List Int) (S : Sw) : Prop :=
  ∃ cur, CurAt cur nv l S.rest ∧ match S.pc with
  | .node => Has o w0 w (.sw b ob S.A cur mark (fNode ob) S.gone false nv l)
  | .beg i vs u r => ∃ B, Has o w0 w (.swc b ob B S.A cur mark (fBeg B) S.gone nv l ((i : Int) + 1) u (ints vs) (vs.map (bgn S.A)) (vs.map (enn S.A)))
  | .en i vs u r => ∃ B, Has o w0 w (.swc b ob B S.A cur mark (fEnd B) S.gone nv l ((i : Int) + 1) u (ints (vs ++ [u])) ((vs ++ [u]).map (bgn S.A)) (vs.map (enn S.A)))
  | .beh i vs u r => ∃ B, Has o w0 w (.swc b ob B S.A cur mark (fBeh B) S.gone nv l ((i : Int) + 1) u (ints (vs ++ [u])) ((vs ++ [u]).map (bgn S.A)) ((vs ++ [u]).map (enn S.A)))
  | .tk i vs => ∃ B at_, Has o w0 w (.swc b ob B S.A cur mark (fTake B) S.gone nv l ((i : Int) + 1) at_ (ints vs) (vs.map (bgn S.A)) (vs.map (enn S.A)))

/-- The same but for the arena's steps. -/
def Sw.at (S : Sw) (st : Int) : Sw := { S with A := S.A.at st }

theorem enter_beg (args : Array Value) (w : World) : (callFunc 72 args).run Tryd.prog w = .ok (.enter 72 args) w := by kernel_rfl
theorem enter_end (args : Array Value) (w : World) : (callFunc 75 args).run Tryd.prog w = .ok (.enter 75 args) w := by kernel_rfl
theorem enter_beh (args : Array Value) (w : World) : (callFunc 76 args).run Tryd.prog w = .ok (.enter 76 args) w := by kernel_rfl
theorem enter_take (args : Array Value) (w : World) : (callFunc 78 args).run Tryd.prog w = .ok (.enter 78 args) w := by kernel_rfl

variable {E : Part}
theorem swx_done (h : Has o w0 w (.swx b ob A cur mark fv gone nv l E)) : Has o w0 (w.setCell ⟨ob, 5, none⟩ (.bool false)) (.swx b ob A cur mark fv gone nv l E) := by
  obtain ⟨o1, h1, p1, _, b1⟩ := Has.left (A := .sw b ob A cur mark fv gone false nv l) h
  exact b1 _ _ (sw_done h1 false)
theorem swx_five (h : Has o w0 w (.swx b ob A cur mark fv gone nv l E)) : ∃ u, w.cell? ⟨ob, 5, none⟩ = some u ∧ w.frozen? ⟨ob, 5, none⟩ = false := by
  obtain ⟨o1, h1, _⟩ := Has.left (A := .sw b ob A cur mark fv gone false nv l) h
  exact sw_five h1

set_option maxHeartbeats 4000000 in
set_option maxRecDepth 100000 in
/-- A node that has a version: the steps along its chain begin. -/
theorem node_go {g k m c cap : Nat} (h : Has o w0 w (.sw b ob A (.slice (some ⟨g, k, none⟩) (m + 1) (c + 1)) mark fv gone false nv l)) (hnv : nv = .slice (some ⟨g, 0, none⟩) l.length cap) (hk : k + (m + 1) = l.length) (hc : m ≤ c) (hc9 : c < 9223372036854775807)
    (i : Nat) (u : Int) (hx : l.getD k 0 = (i : Int) + 1) (hn : A.at_ (.head i) = some u) (hu : 0 < u) (hu9 : u < 9223372036854775808) :
    Calls Tryd.prog 32 #[Pt ob] w fun e w' => e = .returned (.bool false) ∧ ∃ k' B, (0 < m → k' = k + 1) ∧ Has o w0 w' (.swc b ob B A.step (.slice (some ⟨g, k', none⟩) m c) mark (fBeg B) gone nv l ((i : Int) + 1) u [] [] []) := by
  obtain ⟨c0, c1, _, _, _, _, zf⟩ := sw_fields h
  have z1 := zf 1 (by omega)
  have cg := sw_num h hnv (k := k) (by omega)
  obtain ⟨k', hk', hview⟩ : ∃ k', (0 < m → k' = k + 1) ∧ ((c = 0 ∧ m = 0 ∧ k' = k) ∨ ∃ c', c = c' + 1 ∧ k' = k + 1) := by
    by_cases h0 : c = 0
    · exact ⟨k, fun h => by omega, .inl ⟨h0, by omega, rfl⟩⟩
    · exact ⟨k + 1, fun _ => rfl, .inr ⟨c - 1, by omega, rfl⟩⟩
  have hX := sw_put h (.slice (some ⟨g, k', none⟩) m c) fv gone false 1 _ (by omega) ((opF_upd (Pt b) _ mark fv gone false).1 _)
  rw [hx] at cg
  obtain ⟨o1, h1, _, b1⟩ := sw_store hX
  have HH := Lib.hid ((head_at h1 i u hn hu9).mono (R' := fun e w' => e = .returned (.tuple #[.int .i64 u, .int .i64 0]) ∧ Has o w0 w' (.sw b ob A.step (.slice (some ⟨g, k', none⟩) m c) mark fv gone false nv l)) (by
    rintro e w' ⟨rfl, h'⟩
    exact ⟨rfl, b1 _ _ h'⟩))
  have hm9 : m < 9223372036854775807 := by omega
  have d1 : decide (u = 0) = false := by simp only [decide_eq_false_iff_not]; omega
  have d1' : (u == 0) = false := by simp only [beq_eq_false_iff_ne]; omega
  clear h zf hX h1 b1 hk hnv hn hk' hx
  rcases hview with ⟨rfl, rfl, rfl⟩ | ⟨c', rfl, rfl⟩
  all_goals (
    go_enter Tryd.func32, Tryd.ntmps32
    go_wp2_with fail
    refine HH.out.mono ?_
    rintro e w' ⟨rfl, hX2⟩
    have HC := Lib.hid (chain_begins hX2 ((i : Int) + 1) u)
    clear hX2
    go_wp2_with fail
    refine HC.out.mono ?_
    rintro e w4 ⟨rfl, B, hX4⟩
    have HX4 := Lib.hid hX4
    clear hX4
    go_wp2_with fail
    go_ret
    exact ⟨rfl, _, B, fun hm => by first | rfl | omega, HX4.out⟩)

theorem ints_len (l : List Nat) : (ints l).length = l.length := by unfold ints; simp
theorem ints_snoc (l : List Nat) (u : Nat) : ints (l ++ [u]) = ints l ++ [(u : Int)] := by unfold ints; simp
theorem ints_getD (l : List Nat) (k : Nat) : (ints l).getD k 0 = ((l.getD k 0 : Nat) : Int) := by
  unfold ints
  rw [List.getD_eq_getElem?_getD, List.getD_eq_getElem?_getD, List.getElem?_map]
  cases l[k]? <;> rfl
theorem map_getD (l : List Nat) (f : Nat → Int) (k : Nat) (hk : k < l.length) : (l.map f).getD k 0 = f (l.getD k 0) := by
  rw [List.getD_eq_getElem?_getD, List.getD_eq_getElem?_getD, List.getElem?_map, List.getElem?_eq_getElem hk]; rfl
theorem stay_map (A : ASt) (mark : Int) (vs : List Nat) : stayL A mark vs = keepF (fun k => (vs.map (bgn A)).getD k 0) (fun k => (vs.map (enn A)).getD k 0) mark 0 vs.length := by
  unfold stayL
  exact keepF_congr fun j _ hj => ⟨(map_getD vs (bgn A) j (by omega)).symm, (map_getD vs (enn A) j (by omega)).symm⟩

theorem split_at (vs : List Nat) (s : Nat) (hs : s < vs.length) : vs = vs.take s ++ vs.getD s 0 :: vs.drop (s + 1) := by
  rw [List.getD_eq_getElem?_getD, List.getElem?_eq_getElem hs]
  simp

/-- A version of a linked row: what stands behind it. -/
theorem Linked.here {A : ASt} (hd' : ∀ i, A.ver i = true → (A.V i).next ≤ i) {vs : List Nat} (h : Linked A vs) (s : Nat) (hs : s < vs.length) :
    ∃ i nx, vs.getD s 0 = i + 1 ∧ A.ver i = true ∧ A.at_ (.next i) = some nx ∧ nx = hd (vs.drop (s + 1)) ∧ vs.drop (s + 1) = chainF A nx.toNat nx := by
  have h2 := h
  rw [split_at vs s hs] at h2
  have h3 := Linked.tail _ h2
  obtain ⟨h4, h5, h6, h7⟩ := h3
  refine ⟨vs.getD s 0 - 1, _, by omega, h5, (some_ofV h5).2.2, h6, ?_⟩
  rw [h6]
  exact (h7.chain hd' _ (Nat.le_refl _)).symm

/-- What is there of a version that is seen. -/
theorem seen_words (h : Has o w0 w (.store b A)) {u : Nat} (hv : A.ver (u - 1) = true) : (0 ≤ bgn A u ∧ bgn A u < 18446744073709551616) ∧ (0 ≤ enn A u ∧ enn A u < 18446744073709551616) := by
  have hok := h.stOk
  exact ⟨hok.word _ _ (some_ofV hv).1, hok.word _ _ (some_ofV hv).2.1⟩

theorem sw_ok {dn : Bool} (h : Has o w0 w (.sw b ob A cur mark fv gone dn nv l)) : AOk A := by
  obtain ⟨_, h1, _⟩ := sw_store h
  exact h1.stOk
theorem swc_ok (h : Has o w0 w (.swc b ob B A cur mark fv gone nv l n at_ vs bs es)) : AOk A := by
  obtain ⟨_, h1, _⟩ := swc_store h
  exact h1.stOk

/-- Sizes that a sweep stays in. -/
structure Sw.small (S : Sw) : Prop where
  nV : S.A.nV ≤ 1000000
  gone : S.gone ≤ 1000000

theorem fall_len (l : List Nat) (N : Nat) (hp : l.Pairwise (· > ·)) (hm : ∀ v ∈ l, 1 ≤ v ∧ v ≤ N) : l.length ≤ N := by
  induction l generalizing N with
  | nil => exact Nat.zero_le _
  | cons v l ih =>
    obtain ⟨h1, h2⟩ := List.pairwise_cons.1 hp
    obtain ⟨h3, h4⟩ := hm v (by simp)
    have := ih (v - 1) h2 fun u hu => ⟨(hm u (by simp [hu])).1, by have := h1 u hu; omega⟩
    rw [List.length_cons]; omega
theorem chain_len {A : ASt} {ch : Nat → List Nat} (h : Chs A ch) {i : Nat} (hi : i < A.nN) : (ch i).length ≤ A.nV := by
  refine fall_len _ _ ((h.link i hi).falls h.down) fun v hv => ?_
  obtain ⟨h1, h2⟩ := (h.link i hi).mem v hv
  have := ver_lt h2
  exact ⟨h1, by omega⟩

theorem cur_next {cur : Value} {x : Int} {rest : List Int} (h : CurAt cur nv l (x :: rest)) : ∃ g k m c cap, nv = .slice (some ⟨g, 0, none⟩) l.length cap ∧ cur = .slice (some ⟨g, k, none⟩) (m + 1) (c + 1) ∧ k + (m + 1) = l.length ∧ m ≤ c ∧ c < 9223372036854775807 ∧ l.getD k 0 = x ∧
    ∀ k', (0 < m → k' = k + 1) → CurAt (.slice (some ⟨g, k', none⟩) m c) nv l rest := by
  rcases h with ⟨h, _⟩ | ⟨g, k, m, c, cap, h1, h2, h3, h4, h5, h6⟩
  · cases h
  · refine ⟨g, k, m, c, cap, h1, h2, h3, h4, h5, ?_, fun k' hk' => ?_⟩
    · have : l[k]? = some x := by
        have := congrArg (fun t => t[0]?) h6
        simpa using this
      rw [List.getD_eq_getElem?_getD, this]; rfl
    · have hr : l.drop (k + 1) = rest := by
        rw [← List.drop_drop, h6]; rfl
      cases m with
      | zero =>
        left
        refine ⟨?_, _, _, rfl⟩
        rw [← hr, List.drop_eq_nil_of_le (by omega)]
      | succ m =>
        right
        refine ⟨g, k', m, c - 1, cap, h1, ?_, ?_, ?_, ?_, ?_⟩
        · rw [show c - 1 + 1 = c by omega]
        · have := hk' (by omega); omega
        · omega
        · omega
        · rw [hk' (by omega)]; exact hr

theorem isN_head {A : ASt} {ch : Nat → List Nat} (hc : Chs A ch) {x : Int} (hx : A.isN x = true) : ∃ i : Nat, x = (i : Int) + 1 ∧ i < A.nN ∧ (x - 1).toNat = i ∧ A.at_ (.head i) = some (hd (ch i)) := by
  obtain ⟨i, rfl, hi⟩ := isN_at hx
  refine ⟨i, rfl, hi, by omega, ?_⟩
  rw [(some_of hi).1, hc.head i hi]

set_option maxHeartbeats 4000000 in
/-- A step where node is next. -/
theorem step_node {S : Sw} (hS : SwAt o w0 w b ob mark nv l S) (hc : Chs S.A S.ch) (hpc : S.pc = .node) (x : Int) (rest : List Int) (hr : S.rest = x :: rest) (hV : S.A.nV ≤ 1000000) :
    Calls Tryd.prog 11 #[Pt ob] w fun e w' => e = .returned (.bool false) ∧ ∃ st, SwAt o w0 w' b ob mark nv l ((nxt mark S).at st) := by
  obtain ⟨A, ch, gn, rest0, pc⟩ := S
  dsimp only at hpc hr hV hc
  subst hpc hr
  obtain ⟨cur, hcur, h⟩ := hS
  dsimp only at hcur h
  obtain ⟨g, k, m, c, cap, h1, rfl, h3, h4, h5, h6, h7⟩ := cur_next hcur
  by_cases hx : A.isN x = true
  · obtain ⟨i, rfl, hi, e1, hh⟩ := isN_head hc hx
    cases hch : ch i with
    | nil =>
      rw [hch] at hh
      refine (step_skip h h1 h3 h4 h5 (.inr ⟨i, h6, hh⟩)).mono ?_
      rintro e w' ⟨rfl, st, k', hk, h'⟩
      refine ⟨rfl, st, ?_⟩
      have en : nxt mark ⟨A, ch, gn, ((i : Int) + 1) :: rest, .node⟩ = ⟨A, ch, gn, rest, .node⟩ := by
        unfold nxt; simp only [hx, if_true, e1, hch]
      rw [en]
      exact ⟨_, h7 k' hk, h'⟩
    | cons u r =>
      rw [hch] at hh
      have hl := hc.link i hi
      rw [hch] at hl
      have hu := ver_lt hl.2.1
      have hu1 := hl.1
      refine (step_calls h (enter_node _ _) (P := fun w' => ∃ k' B, (0 < m → k' = k + 1) ∧ Has o w0 w' (.swx b ob A.step (.slice (some ⟨g, k', none⟩) m c) mark (fBeg B) gn nv l (.env B ob ((i : Int) + 1) u [] [] []))) (node_go h h1 h3 h4 h5 i u h6 hh (by omega) (by omega)) ?_).mono ?_
      · rintro w' ⟨k', B, _, h'⟩
        exact swx_five h'
      · rintro e w' ⟨rfl, w2, ⟨k', B, hk, h'⟩, rfl⟩
        refine ⟨rfl, wrap64 (A.steps + 1), ?_⟩
        have en : nxt mark ⟨A, ch, gn, ((i : Int) + 1) :: rest, .node⟩ = ⟨A, ch, gn, rest, .beg i [] u r⟩ := by
          unfold nxt; simp only [hx, if_true, e1, hch]
        rw [en]
        exact ⟨_, h7 k' hk, B, swx_done h'⟩
  · have hx' : A.isN x = false := by simpa using hx
    refine (step_skip h h1 h3 h4 h5 (.inl (by rw [h6]; exact hx'))).mono ?_
    rintro e w' ⟨rfl, st, k', hk, h'⟩
    refine ⟨rfl, st, ?_⟩
    have en : nxt mark ⟨A, ch, gn, x :: rest, .node⟩ = ⟨A, ch, gn, rest, .node⟩ := by
      unfold nxt; simp [hx']
    rw [en]
    exact ⟨_, h7 k' hk, h'⟩

set_option maxHeartbeats 4000000 in
/-- A step along a chain. -/
theorem step_chain {S : Sw} (hS : SwAt o w0 w b ob mark nv l S) (hc : Chs S.A S.ch) (hp : S.pc.ok S.A S.ch) (hV : S.A.nV ≤ 1000000) (hpc : (∃ i vs u r, S.pc = .beg i vs u r) ∨ (∃ i vs u r, S.pc = .en i vs u r) ∨ ∃ i vs u r, S.pc = .beh i vs u r) :
    Calls Tryd.prog 11 #[Pt ob] w fun e w' => e = .returned (.bool false) ∧ ∃ st, SwAt o w0 w' b ob mark nv l ((nxt mark S).at st) := by
  obtain ⟨A, ch, gn, rest, pc⟩ := S
  dsimp only at hpc hV hc hp
  obtain ⟨cur, hcur, h⟩ := hS
  dsimp only at hcur h
  have key : ∀ {i : Nat} {vs : List Nat} {u : Nat} {r : List Nat}, (i < A.nN ∧ ∃ pre, ch i = pre ++ (vs ++ u :: r)) → ∃ d : Nat, u = d + 1 ∧ A.ver d = true ∧ (A.V d).next = hd r ∧ vs.length ≤ 1000000 ∧ d < A.nV ∧ Linked A r := by
    rintro i vs u r ⟨hi, pre, e⟩
    have hl := hc.link i hi
    have hle := chain_len hc hi
    rw [e] at hl hle
    obtain ⟨h1, h2, h3, h4⟩ := Linked.tail _ (Linked.tail _ hl)
    simp only [List.length_append] at hle
    exact ⟨u - 1, by omega, h2, h3, by omega, ver_lt h2, h4⟩
  rcases hpc with ⟨i, vs, u, r, rfl⟩ | ⟨i, vs, u, r, rfl⟩ | ⟨i, vs, u, r, rfl⟩
  · obtain ⟨d, rfl, hv, _, hlen, _, _⟩ := key hp
    obtain ⟨B, h⟩ := h
    obtain ⟨_, hx, _⟩ := Has.left (A := .sw b ob A cur mark (fBeg B) gn false nv l) h
    refine (step_calls hx (enter_beg _ _) (P := fun w' => Has o w0 w' (.swx b ob A.step cur mark (fEnd B) gn nv l (.env B ob ((i : Int) + 1) ((d : Int) + 1) (ints vs ++ [(d : Int) + 1]) (vs.map (bgn A) ++ [(A.V d).begin_]) (vs.map (enn A))))) (beg_walk h _ (some_ofV hv).1 (by rw [ints_len]; exact hlen) (by simpa using hlen)) (fun w' h' => swx_five h')).mono ?_
    rintro e w' ⟨rfl, w2, h', rfl⟩
    refine ⟨rfl, wrap64 (A.steps + 1), _, hcur, B, ?_⟩
    have := swx_done h'
    show Has o w0 _ (.swc b ob B A.step cur mark (fEnd B) gn nv l ((i : Int) + 1) ((d + 1 : Nat) : Int) (ints (vs ++ [d + 1])) ((vs ++ [d + 1]).map (bgn A)) (vs.map (enn A)))
    rw [ints_snoc, List.map_append]
    exact this
  · obtain ⟨d, rfl, hv, _, hlen, _, _⟩ := key hp
    obtain ⟨B, h⟩ := h
    obtain ⟨_, hx, _⟩ := Has.left (A := .sw b ob A cur mark (fEnd B) gn false nv l) h
    refine (step_calls hx (enter_end _ _) (P := fun w' => Has o w0 w' (.swx b ob A.step cur mark (fBeh B) gn nv l (.env B ob ((i : Int) + 1) ((d : Int) + 1) (ints (vs ++ [d + 1])) ((vs ++ [d + 1]).map (bgn A)) (vs.map (enn A) ++ [(A.V d).end_])))) (end_walk h _ (some_ofV hv).2.1 (by simpa using hlen)) (fun w' h' => swx_five h')).mono ?_
    rintro e w' ⟨rfl, w2, h', rfl⟩
    refine ⟨rfl, wrap64 (A.steps + 1), _, hcur, B, ?_⟩
    have := swx_done h'
    show Has o w0 _ (.swc b ob B A.step cur mark (fBeh B) gn nv l ((i : Int) + 1) ((d + 1 : Nat) : Int) (ints (vs ++ [d + 1])) ((vs ++ [d + 1]).map (bgn A)) ((vs ++ [d + 1]).map (enn A)))
    rw [List.map_append (f := enn A)]
    exact this
  · obtain ⟨d, rfl, hv, hnx, hlen, hdl, hlr⟩ := key hp
    obtain ⟨B, h⟩ := h
    obtain ⟨_, hx, _⟩ := Has.left (A := .sw b ob A cur mark (fBeh B) gn false nv l) h
    have hle := hc.down d hv
    refine (step_calls hx (enter_beh _ _) (P := fun w' => Has o w0 w' (.swx b ob A.step cur mark (if (A.V d).next = 0 then fTake B else fBeg B) gn nv l (.env B ob ((i : Int) + 1) (A.V d).next (ints (vs ++ [d + 1])) ((vs ++ [d + 1]).map (bgn A)) ((vs ++ [d + 1]).map (enn A))))) (beh_walk h _ (some_ofV hv).2.2 (by omega)) (fun w' h' => swx_five h')).mono ?_
    rintro e w' ⟨rfl, w2, h', rfl⟩
    refine ⟨rfl, wrap64 (A.steps + 1), ?_⟩
    have h2 := swx_done h'
    rw [hnx] at h2
    cases r with
    | nil => exact ⟨_, hcur, B, _, h2⟩
    | cons u' r' =>
      refine ⟨_, hcur, B, ?_⟩
      have hne : ¬ hd (u' :: r') = 0 := by
        have := hlr.1
        simp only [hd]; omega
      rw [if_neg hne] at h2
      exact h2

theorem hd_ne (pre vs : List Nat) (hp : (pre ++ vs).Pairwise (· > ·)) (h0 : pre ≠ []) (h1 : vs ≠ []) : hd (pre ++ vs) ≠ ((vs.getD 0 0 : Nat) : Int) := by
  cases pre with
  | nil => exact absurd rfl h0
  | cons u pre =>
    cases vs with
    | nil => exact absurd rfl h1
    | cons v vs =>
      have := (List.pairwise_cons.1 hp).1 v (by simp)
      show (u : Int) ≠ (v : Int)
      omega

set_option maxHeartbeats 4000000 in
/-- The step behind a chain. -/
theorem step_take {S : Sw} (hS : SwAt o w0 w b ob mark nv l S) (hc : Chs S.A S.ch) (hp : S.pc.ok S.A S.ch) (hV : S.A.nV ≤ 1000000) (hg : S.gone ≤ 1000000) (i : Nat) (vs : List Nat) (hpc : S.pc = .tk i vs) :
    Calls Tryd.prog 11 #[Pt ob] w fun e w' => e = .returned (.bool false) ∧ ∃ st, SwAt o w0 w' b ob mark nv l ((nxt mark S).at st) := by
  obtain ⟨A, ch, gn, rest, pc⟩ := S
  dsimp only at hpc hV hc hp hg
  subst hpc
  obtain ⟨cur, hcur, B, at_, h⟩ := hS
  dsimp only at hcur h
  obtain ⟨hi, hne, pre, e⟩ := hp
  have hl := hc.link i hi
  have hfall := hl.falls hc.down
  have hle := chain_len hc hi
  rw [e] at hl hfall hle
  have hlv := Linked.tail pre hl
  simp only [List.length_append] at hle
  have hlen : vs.length ≤ 1000000 := by omega
  have hlen0 : 0 < vs.length := List.length_pos_iff.2 hne
  obtain ⟨_, hx, _⟩ := Has.left (A := .sw b ob A cur mark (fTake B) gn false nv l) h
  obtain ⟨o5, h5, _⟩ := swc_store h
  have hwb : ∀ x ∈ vs.map (bgn A), 0 ≤ x ∧ x < 18446744073709551616 := fun x hx => by
    obtain ⟨u, hu, rfl⟩ := List.mem_map.1 hx
    exact (seen_words h5 (hlv.mem u hu).2).1
  have hwe : ∀ x ∈ vs.map (enn A), 0 ≤ x ∧ x < 18446744073709551616 := fun x hx => by
    obtain ⟨u, hu, rfl⟩ := List.mem_map.1 hx
    exact (seen_words h5 (hlv.mem u hu).2).2
  have hiL : (ints vs).length = vs.length := ints_len vs
  have hs := stayL_le A mark vs
  have hK := stay_map A mark vs
  have hV9 : A.nV ≤ 1000000000 := by omega
  have hover := over_walk (R := fun A' g' => ∃ st, A' = (tkA mark A ch i vs).1.at st ∧ g' = ((gn + (tkA mark A ch i vs).2.2 : Nat) : Int)) h hwb hwe (by simp [hiL]) (by simp [hiL]) (stayL A mark vs) (by rw [hiL]; exact hK) (by
    intro w1 E p cap hE hX
    rw [hiL] at hE ⊢
    by_cases c1 : stayL A mark vs = vs.length
    · have et : tkA mark A ch i vs = (A, ch, 0) := by unfold tkA; simp only [c1, if_true]
      rw [et, c1]
      refine (take_all hX ((i : Int) + 1) p cap vs.length).mono ?_
      rintro e' w' ⟨rfl, h'⟩
      exact ⟨rfl, A, _, ⟨A.steps, rfl, rfl⟩, h'⟩
    by_cases c2 : 0 < stayL A mark vs
    · obtain ⟨s, hse⟩ : ∃ s, stayL A mark vs = s + 1 := ⟨stayL A mark vs - 1, by omega⟩
      have et : tkA mark A ch i vs = (A.cutV (vs.getD s 0) (vs.drop (s + 1)), updL ch i ((ch i).take ((ch i).length - (vs.length - (s + 1)))), vs.length - (s + 1)) := by
        unfold tkA
        rw [hse] at c1
        simp only [hse]
        rw [if_neg c1, if_pos (by omega)]
        rfl
      obtain ⟨d, nx, hd1, hd2, hd3, hd4, hd5⟩ := hlv.here hc.down s (by omega)
      rw [et, hse]
      refine (take_some hX ((i : Int) + 1) p cap vs.length _ hE s d nx (by omega) (by omega) (by rw [ints_getD, hd1]; rfl) hd3 hV9 (by omega) (by omega) _ hd5 (by rw [List.length_drop]; omega)).mono ?_
      rintro e' w' ⟨rfl, st, h'⟩
      refine ⟨rfl, _, _, ⟨st, by rw [hd1], ?_⟩, h'⟩
      rw [List.length_drop]
      show (gn : Int) + ((vs.length - (s + 1) : Nat) : Int) = ((gn + (vs.length - (s + 1)) : Nat) : Int)
      omega
    · have hs0 : stayL A mark vs = 0 := by omega
      obtain ⟨d, nx, hd1, hd2, hd3, hd4, hd5⟩ := hlv.here hc.down 0 hlen0
      have hh : A.at_ (.head i) = some (hd (ch i)) := by rw [(some_of hi).1, hc.head i hi]
      have hdl := ver_lt hd2
      rw [hs0]
      by_cases c3 : ch i = vs
      · have et : tkA mark A ch i vs = ((A.cutV (vs.getD 0 0) (vs.drop 1)).dropV i (vs.getD 0 0) 0, updL ch i [], vs.length) := by
          unfold tkA
          simp only [hs0]
          rw [if_neg (by omega), if_neg (by omega), if_pos c3]
        have hhd : hd (ch i) = (d : Int) + 1 := by
          rw [c3]
          cases vs with
          | nil => exact absurd rfl hne
          | cons v vs => show (v : Int) = _; rw [show v = d + 1 from hd1]; rfl
        rw [hhd] at hh
        have hmem : ∀ u ∈ vs.drop 1, 1 ≤ u ∧ u ≠ d + 1 := fun u hu => by
          refine ⟨(hlv.mem u (List.mem_of_mem_drop hu)).1, fun eq => ?_⟩
          have h6 := split_at vs 0 hlen0
          have hf2 := (List.pairwise_append.1 hfall).2.1
          rw [h6, List.take_zero, List.nil_append, hd1] at hf2
          have := (List.pairwise_cons.1 hf2).1 u hu
          omega
        rw [et]
        refine (take_drop hX i d p cap vs.length _ hE hlen0 nx (by rw [ints_getD, hd1]; rfl) hh hd3 hV9 (by omega) (by omega) _ hd5 (by rw [List.length_drop]; omega) ?_ ?_ (by omega)).mono ?_
        · unfold ASt.at_ at hh ⊢
          rw [(cutV_N A _ _).1, (cutV_N A _ _).2.1]
          exact hh
        · have hv2 : (A.cutV (d + 1) (vs.drop (0 + 1))).ver d = true := by
            rw [cutV_ver A (fun u hu => (hmem u hu).1), hd2]
            simp only [Bool.true_and, decide_eq_true_eq]
            exact fun hm => (hmem _ hm).2 rfl
          rw [(some_ofV hv2).2.2, cutV_V A (fun u hu => (hmem u hu).1)]
          simp
        · rintro e' w' ⟨rfl, st, h'⟩
          refine ⟨rfl, _, _, ⟨st, by rw [hd1], ?_⟩, h'⟩
          rw [List.length_drop]
          show (gn : Int) + (((vs.length - (0 + 1) : Nat) : Int) + 1) = ((gn + vs.length : Nat) : Int)
          omega
      · have et : tkA mark A ch i vs = (A, ch, 0) := by
          unfold tkA
          simp only [hs0]
          rw [if_neg (by omega), if_neg (by omega), if_neg c3]
        have hp0 : pre ≠ [] := fun e0 => c3 (by rw [e, e0]; rfl)
        have hne2 : hd (ch i) ≠ ((vs.getD 0 0 : Nat) : Int) := by rw [e]; exact hd_ne pre vs hfall hp0 hne
        have h9 : hd (ch i) ≤ A.nV := by
          rw [e]
          cases pre with
          | nil => exact absurd rfl hp0
          | cons u pre =>
            have h1 := hl.mem u (by simp)
            have h2 := ver_lt h1.2
            show (u : Int) ≤ _
            omega
        rw [et]
        refine (take_not hX i p cap vs.length _ hE hlen0 _ (hd (ch i)) rfl hh (by rw [ints_getD]; exact hne2) (by omega)).mono ?_
        rintro e' w' ⟨rfl, h'⟩
        exact ⟨rfl, _, _, ⟨_, rfl, rfl⟩, h'⟩)
  refine (step_calls hx (enter_take _ _) (P := fun w' => ∃ A' g', (∃ st, A' = (tkA mark A ch i vs).1.at st ∧ g' = ((gn + (tkA mark A ch i vs).2.2 : Nat) : Int)) ∧ Has o w0 w' (.sw b ob A' cur mark (fNode ob) g' false nv l)) hover ?_).mono ?_
  · rintro w' ⟨_, _, _, h'⟩
    exact sw_five h'
  · rintro e w' ⟨rfl, w2, ⟨A', g', ⟨st, rfl, rfl⟩, h'⟩, rfl⟩
    exact ⟨rfl, st, cur, hcur, sw_done h' false⟩
end Go.Proofs.YtbodobdllchmgaaDoor
namespace Go.Proofs.YtbodobdllchmgaaDoor
open Go Go.RowKit
set_option linter.unusedVariables false

theorem isN_of {A A' : ASt} (h : A'.nN = A.nN) (x : Int) : A'.isN x = A.isN x := by unfold ASt.isN; rw [h]

theorem tkA_eq (mark : Int) (A : ASt) (ch : Nat → List Nat) (i : Nat) (vs : List Nat) :
    (tkA mark A ch i vs = (A, ch, 0) ∧ (stayL A mark vs = vs.length ∨ (stayL A mark vs = 0 ∧ ch i ≠ vs))) ∨
    (∃ s, stayL A mark vs = s + 1 ∧ s + 1 < vs.length ∧ tkA mark A ch i vs = (A.cutV (vs.getD s 0) (vs.drop (s + 1)), updL ch i ((ch i).take ((ch i).length - (vs.length - (s + 1)))), vs.length - (s + 1))) ∨
    (stayL A mark vs = 0 ∧ 0 < vs.length ∧ ch i = vs ∧ tkA mark A ch i vs = ((A.cutV (vs.getD 0 0) (vs.drop 1)).dropV i (vs.getD 0 0) 0, updL ch i [], vs.length)) := by
  have hle := stayL_le A mark vs
  unfold tkA
  by_cases c1 : stayL A mark vs = vs.length
  · left; simp [c1]
  by_cases c2 : 0 < stayL A mark vs
  · right; left
    obtain ⟨s, hs⟩ : ∃ s, stayL A mark vs = s + 1 := ⟨stayL A mark vs - 1, by omega⟩
    refine ⟨s, hs, by omega, ?_⟩
    simp only [hs] at c1 ⊢
    rw [if_neg c1, if_pos (by omega)]
    rfl
  have hs0 : stayL A mark vs = 0 := by omega
  by_cases c3 : ch i = vs
  · right; right
    refine ⟨hs0, by omega, c3, ?_⟩
    simp only [hs0]
    rw [if_neg (by omega), if_neg (by omega), if_pos c3]
  · left
    refine ⟨?_, .inr ⟨hs0, c3⟩⟩
    simp only [hs0]
    rw [if_neg (by omega), if_neg (by omega), if_neg c3]

theorem tkA_nN (mark : Int) (A : ASt) (ch : Nat → List Nat) (i : Nat) (vs : List Nat) : (tkA mark A ch i vs).1.nN = A.nN ∧ (tkA mark A ch i vs).1.nV = A.nV := by
  rcases tkA_eq mark A ch i vs with ⟨h, _⟩ | ⟨s, _, _, h⟩ | ⟨_, _, _, h⟩
  · rw [h]; exact ⟨rfl, rfl⟩
  · rw [h]; exact ⟨(cutV_N A _ _).2.1, (cutV_N A _ _).2.2⟩
  · rw [h]; exact ⟨(cutV_N A _ _).2.1, (cutV_N A _ _).2.2⟩

/-- The chains behind a take: those of ahead, cut; no word of what stays has changed. -/
theorem tkA_chs {mark : Int} {A : ASt} {ch : Nat → List Nat} (h : Chs A ch) {i : Nat} (hi : i < A.nN) {pre vs : List Nat} (hv : vs ≠ []) (e : ch i = pre ++ vs) :
    Chs (tkA mark A ch i vs).1 (tkA mark A ch i vs).2.1 ∧ (∀ j, (tkA mark A ch i vs).2.1 j <+: ch j) ∧ (∀ j, (tkA mark A ch i vs).1.V j = { A.V j with next := ((tkA mark A ch i vs).1.V j).next, gone := ((tkA mark A ch i vs).1.V j).gone }) ∧
      (∀ j, j ≠ i → (tkA mark A ch i vs).2.1 j = ch j) ∧ (tkA mark A ch i vs).2.1 i = (if stayL A mark vs = 0 ∧ ch i ≠ vs then ch i else pre ++ vs.take (stayL A mark vs)) := by
  have hm : ∀ u ∈ vs, 1 ≤ u := fun u hu => ((h.link i hi).mem u (by rw [e]; simp [hu])).1
  have hm1 : ∀ k, ∀ u ∈ vs.drop k, 1 ≤ u := fun k u hu => hm u (List.mem_of_mem_drop hu)
  rcases tkA_eq mark A ch i vs with ⟨ht, hs⟩ | ⟨s, hs, hlt, ht⟩ | ⟨hs, h0, hc, ht⟩
  · rw [ht]
    refine ⟨h, fun j => List.prefix_refl _, fun j => rfl, fun j _ => rfl, ?_⟩
    rcases hs with hs | hs
    · by_cases h9 : stayL A mark vs = 0 ∧ ch i ≠ vs
      · rw [if_pos h9]
      · rw [if_neg h9, hs, List.take_length]; exact e
    · rw [if_pos hs]
  · have e2 : ch i = (pre ++ vs.take s) ++ vs.getD s 0 :: vs.drop (s + 1) := by
      rw [e, List.append_assoc, ← split_at vs s (by omega)]
    have e3 : (ch i).take ((ch i).length - (vs.length - (s + 1))) = pre ++ vs.take (s + 1) := by
      rw [e, List.length_append, List.take_append]
      congr 1
      · rw [List.take_of_length_le (by omega)]
      · congr 1; omega
    have e4 : pre ++ vs.take (s + 1) = (pre ++ vs.take s) ++ [vs.getD s 0] := by
      rw [List.append_assoc, List.take_add_one, List.getD_eq_getElem?_getD, List.getElem?_eq_getElem (by omega)]; rfl
    rw [ht]
    refine ⟨?_, fun j => ?_, fun j => ?_, fun j hj => ?_, ?_⟩
    · dsimp only
      rw [e3, e4]
      exact h.cut hi e2
    · dsimp only
      unfold updL
      by_cases ej : j = i
      · rw [if_pos ej, ej]; exact List.take_prefix _ _
      · rw [if_neg ej]; exact List.prefix_refl _
    · dsimp only
      rw [cutV_V A (hm1 _)]
    · dsimp only
      unfold updL; rw [if_neg hj]
    · dsimp only
      unfold updL
      rw [if_pos rfl, if_neg (fun h9 => by omega), hs, e3]
  · have hp : pre = [] := by
      rw [e] at hc
      have := congrArg List.length hc
      rw [List.length_append] at this
      exact List.eq_nil_of_length_eq_zero (by omega)
    subst hp
    have e2 : ch i = [] ++ vs.getD 0 0 :: vs.drop 1 := by
      have := split_at vs 0 h0
      rw [List.take_zero, List.nil_append] at this
      rw [hc, List.nil_append]; exact this
    have h2 := h.cut hi e2
    have h3 := h2.drop (i := i) (v := vs.getD 0 0) (by rw [(cutV_N A _ _).2.1]; exact hi) (by unfold updL; rw [if_pos rfl]; rfl)
    rw [ht]
    refine ⟨?_, fun j => ?_, fun j => ?_, fun j hj => ?_, ?_⟩
    · have e5 : updL (updL ch i ([] ++ [vs.getD 0 0])) i [] = updL ch i [] := by
        funext j; unfold updL; split <;> rfl
      rw [e5] at h3
      exact h3
    · dsimp only
      unfold updL
      by_cases ej : j = i
      · rw [if_pos ej]; exact List.nil_prefix
      · rw [if_neg ej]; exact List.prefix_refl _
    · dsimp only
      rw [dropV_V, cutV_V A (hm1 _)]
    · dsimp only
      unfold updL; rw [if_neg hj]
    · dsimp only
      unfold updL
      rw [if_pos rfl, if_neg (fun h9 => h9.2 hc), hs]
      rfl

/-- A step leaves the chains right, and what is next is there. -/
theorem nxt_ok {mark : Int} {S : Sw} (hc : Chs S.A S.ch) (hp : S.pc.ok S.A S.ch) : Chs (nxt mark S).A (nxt mark S).ch ∧ (nxt mark S).pc.ok (nxt mark S).A (nxt mark S).ch ∧ (nxt mark S).A.nN = S.A.nN ∧ (nxt mark S).A.nV = S.A.nV ∧
    (∀ j, (nxt mark S).ch j <+: S.ch j) ∧ ∀ v, bgn (nxt mark S).A v = bgn S.A v ∧ enn (nxt mark S).A v = enn S.A v := by
  obtain ⟨A, ch, gn, rest, pc⟩ := S
  dsimp only at hc hp
  have same : ∀ {pc' : PC}, pc'.ok A ch → Chs A ch ∧ pc'.ok A ch ∧ A.nN = A.nN ∧ A.nV = A.nV ∧ (∀ j, ch j <+: ch j) ∧ ∀ v, bgn A v = bgn A v ∧ enn A v = enn A v := fun {_ : _} h => ⟨hc, h, rfl, rfl, fun _ => List.prefix_refl _, fun _ => ⟨rfl, rfl⟩⟩
  cases pc with
  | node =>
    cases rest with
    | nil => exact same (pc' := .node) trivial
    | cons x rest =>
      unfold nxt
      dsimp only
      by_cases hx : A.isN x = true
      · rw [if_pos hx]
        cases hch : ch (x - 1).toNat with
        | nil => exact same (pc' := .node) trivial
        | cons u r =>
          obtain ⟨i, rfl, hi⟩ := isN_at hx
          have e1 : ((i : Int) + 1 - 1).toNat = i := by omega
          refine same (pc' := .beg _ [] u r) ⟨by omega, [], by rw [hch]; rfl⟩
      · rw [if_neg hx]
        exact same (pc' := .node) trivial
  | beg i vs u r => exact same (pc' := .en i vs u r) hp
  | en i vs u r => exact same (pc' := .beh i vs u r) hp
  | beh i vs u r =>
    obtain ⟨hi, pre, e⟩ := hp
    cases r with
    | nil => exact same (pc' := .tk i (vs ++ [u])) ⟨hi, by simp, pre, e⟩
    | cons u' r' => exact same (pc' := .beg i (vs ++ [u]) u' r') ⟨hi, pre, by rw [e, List.append_assoc]; rfl⟩
  | tk i vs =>
    obtain ⟨hi, hv, pre, e⟩ := hp
    obtain ⟨h1, h2, h3, _, _⟩ := tkA_chs (mark := mark) hc hi hv e
    exact ⟨h1, trivial, (tkA_nN _ _ _ _ _).1, (tkA_nN _ _ _ _ _).2, h2, fun v => ⟨by have := congrArg AVer.begin_ (h3 (v - 1)); exact this, by have := congrArg AVer.end_ (h3 (v - 1)); exact this⟩⟩

/-- How many steps a place along a chain is from the next node. -/
def PC.left : PC → Nat
  | .node => 0
  | .beg _ _ _ r => 3 * r.length + 4
  | .en _ _ _ r => 3 * r.length + 3
  | .beh _ _ _ r => 3 * r.length + 2
  | .tk _ _ => 1

theorem nxt_left {mark : Int} {S : Sw} (h : S.pc ≠ .node) : (nxt mark S).pc.left + 1 = S.pc.left ∧ (nxt mark S).rest = S.rest := by
  obtain ⟨A, ch, gn, rest, pc⟩ := S
  cases pc with
  | node => exact absurd rfl h
  | beg i vs u r => exact ⟨rfl, rfl⟩
  | en i vs u r => exact ⟨rfl, rfl⟩
  | beh i vs u r => cases r with
    | nil => exact ⟨rfl, rfl⟩
    | cons u' r' => exact ⟨by show 3 * r'.length + 4 + 1 = 3 * (r'.length + 1) + 2; omega, rfl⟩
  | tk i vs => exact ⟨rfl, rfl⟩

theorem nxt_node {mark : Int} {S : Sw} (hpc : S.pc = .node) {x : Int} {rest : List Int} (hr : S.rest = x :: rest) : (nxt mark S).rest = rest ∧ (nxt mark S).A = S.A ∧ (nxt mark S).ch = S.ch ∧ (nxt mark S).gone = S.gone ∧
    (((nxt mark S).pc = .node ∧ (S.A.isN x = true → S.ch (x - 1).toNat = [])) ∨ (S.A.isN x = true ∧ ∃ u r, S.ch (x - 1).toNat = u :: r ∧ (nxt mark S).pc = .beg (x - 1).toNat [] u r)) := by
  obtain ⟨A, ch, gn, rest0, pc⟩ := S
  dsimp only at hpc hr
  subst hpc hr
  unfold nxt
  dsimp only
  by_cases hx : A.isN x = true
  · rw [if_pos hx]
    cases hch : ch (x - 1).toNat with
    | nil => exact ⟨rfl, rfl, rfl, rfl, .inl ⟨rfl, fun _ => rfl⟩⟩
    | cons u r => exact ⟨rfl, rfl, rfl, rfl, .inr ⟨hx, u, r, rfl, rfl⟩⟩
  · rw [if_neg hx]
    exact ⟨rfl, rfl, rfl, rfl, .inl ⟨rfl, fun h => absurd h hx⟩⟩

/-- A sweep's step, whatever is next. -/
theorem step_any {o : List Nat} {w0 w : World} {b ob : Nat} {mark : Int} {nv : Value} {l : List Int} {S : Sw} (hS : SwAt o w0 w b ob mark nv l S) (hc : Chs S.A S.ch) (hp : S.pc.ok S.A S.ch) (hV : S.A.nV ≤ 1000000) (hg : S.gone ≤ 1000000) (hf : ¬ (S.pc = .node ∧ S.rest = [])) :
    Calls Tryd.prog 11 #[Pt ob] w fun e w' => e = .returned (.bool false) ∧ ∃ st, SwAt o w0 w' b ob mark nv l ((nxt mark S).at st) := by
  cases hpc : S.pc with
  | node =>
    cases hr : S.rest with
    | nil => exact absurd ⟨hpc, hr⟩ hf
    | cons x rest => exact step_node hS hc hpc x rest hr hV
  | beg i vs u r => exact step_chain hS hc hp hV (.inl ⟨i, vs, u, r, hpc⟩)
  | en i vs u r => exact step_chain hS hc hp hV (.inr (.inl ⟨i, vs, u, r, hpc⟩))
  | beh i vs u r => exact step_chain hS hc hp hV (.inr (.inr ⟨i, vs, u, r, hpc⟩))
  | tk i vs => exact step_take hS hc hp hV hg i vs hpc

/-- A sweep that is done. -/
noncomputable def SwDone (o : List Nat) (w0 w : World) (b ob : Nat) (mark : Int) (nv : Value) (l : List Int) (S : Sw) : Prop := ∃ cur, Has o w0 w (.sw b ob S.A cur mark (fNode ob) S.gone true nv l)

theorem step_last {o : List Nat} {w0 w : World} {b ob : Nat} {mark : Int} {nv : Value} {l : List Int} {S : Sw} (hS : SwAt o w0 w b ob mark nv l S) (hpc : S.pc = .node) (hr : S.rest = []) :
    Calls Tryd.prog 11 #[Pt ob] w fun e w' => e = .returned (.bool true) ∧ SwDone o w0 w' b ob mark nv l S := by
  obtain ⟨A, ch, gn, rest, pc⟩ := S
  dsimp only at hpc hr
  subst hpc hr
  obtain ⟨cur, hcur, h⟩ := hS
  dsimp only at hcur h
  rcases hcur with ⟨_, p, c, rfl⟩ | ⟨g, k, m, c, cap, _, rfl, h3, _, _, h6⟩
  · refine (step_end h).mono ?_
    rintro e w' ⟨rfl, h'⟩
    exact ⟨rfl, _, h'⟩
  · have := congrArg List.length h6
    rw [List.length_drop] at this
    simp at this
    omega
end Go.Proofs.YtbodobdllchmgaaDoor
