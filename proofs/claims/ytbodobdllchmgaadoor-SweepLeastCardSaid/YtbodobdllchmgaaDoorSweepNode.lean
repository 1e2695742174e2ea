/- The walks of node where there is nothing to sweep, of Step, Gone and done; the statements' own 'shown'. -/
import Derived.Test.YtbodobdllchmgaaDoorSweepOp
import Derived.Test.YtbodobdllchmgaaDoorStoreOps
import Derived.Test.YtbodobdllchmgaaDoorStoreMake
import Derived.Test.YtbodobdllchmgaaDoorStoreChain
import Derived.Test.YtbodobdllchmgaaDoorRefSt
namespace Go.Proofs.YtbodobdllchmgaaDoor
open Go Go.RowKit
set_option linter.unusedVariables false

variable {o : List Nat} {w0 w : World} {b ob : Nat} {A : ASt} {cur fv nv : Value} {mark gone : Int} {dn : Bool} {l : List Int}

abbrev Pt (b : Nat) : Value := .pointer (some ⟨b, 0, none⟩)
/-- A sweep under way: its store, its block, the nodes it was given. -/
noncomputable def Part.sw (b ob : Nat) (A : ASt) (cur : Value) (mark : Int) (fv : Value) (gone : Int) (dn : Bool) (nv : Value) (l : List Int) : Part :=
  (Part.store b A).sep ((Part.blk ob 6 66 (opF (Pt b) cur mark fv gone dn)).sep (.ints nv l))

theorem sw_fields (h : Has o w0 w (.sw b ob A cur mark fv gone dn nv l)) : w.cell? ⟨ob, 0, none⟩ = some (Pt b) ∧ w.cell? ⟨ob, 1, none⟩ = some cur ∧ w.cell? ⟨ob, 2, none⟩ = some (.int .i64 mark) ∧ w.cell? ⟨ob, 3, none⟩ = some fv ∧ w.cell? ⟨ob, 4, none⟩ = some (.int .i64 gone) ∧ w.cell? ⟨ob, 5, none⟩ = some (.bool dn) ∧ ∀ i, i < 6 → w.frozen? ⟨ob, i, none⟩ = false := by
  obtain ⟨_, h1, _⟩ := Has.right (A := .store b A) h
  obtain ⟨_, h2, _⟩ := h1.left
  exact ⟨(h2.blkAt (i := 0) (by omega)).1, (h2.blkAt (i := 1) (by omega)).1, (h2.blkAt (i := 2) (by omega)).1, (h2.blkAt (i := 3) (by omega)).1, (h2.blkAt (i := 4) (by omega)).1, (h2.blkAt (i := 5) (by omega)).1, fun i hi => (h2.blkAt hi).2.1⟩
theorem sw_put (h : Has o w0 w (.sw b ob A cur mark fv gone dn nv l)) (cur' fv' : Value) (gone' : Int) (dn' : Bool) (i : Nat) (v : Value) (hi : i < 6) (e : ∀ j, j < 6 → upd (opF (Pt b) cur mark fv gone dn) i v j = opF (Pt b) cur' mark fv' gone' dn' j) :
    Has o w0 (w.setCell ⟨ob, i, none⟩ v) (.sw b ob A cur' mark fv' gone' dn' nv l) := by
  obtain ⟨_, h1, _, _, b1⟩ := Has.right (A := .store b A) h
  obtain ⟨_, h2, _, _, b2⟩ := h1.left
  refine b1 _ _ (b2 _ _ (((h2.blkAt hi).2.2 v).mono ?_))
  rintro fp ⟨hb, rfl⟩
  exact ⟨hb.congr e, rfl⟩
theorem opF_upd (sv cur : Value) (mark : Int) (fv : Value) (gone : Int) (dn : Bool) :
    (∀ v j, j < 6 → upd (opF sv cur mark fv gone dn) 1 v j = opF sv v mark fv gone dn j) ∧ (∀ v j, j < 6 → upd (opF sv cur mark fv gone dn) 3 v j = opF sv cur mark v gone dn j) ∧
    (∀ v j, j < 6 → upd (opF sv cur mark fv gone dn) 4 (.int .i64 v) j = opF sv cur mark fv v dn j) ∧ (∀ v j, j < 6 → upd (opF sv cur mark fv gone dn) 5 (.bool v) j = opF sv cur mark fv gone v j) := by
  refine ⟨fun v j hj => ?_, fun v j hj => ?_, fun v j hj => ?_, fun v j hj => ?_⟩ <;>
    (unfold upd opF; rcases (by omega : j = 0 ∨ j = 1 ∨ j = 2 ∨ j = 3 ∨ j = 4 ∨ j = 5) with rfl | rfl | rfl | rfl | rfl | rfl <;> simp)
theorem sw_store (h : Has o w0 w (.sw b ob A cur mark fv gone dn nv l)) : ∃ o', Has o' w w (.store b A) ∧ (∀ y ∈ o', y ∈ o ∨ w0.heap.size ≤ y) ∧ ∀ w' A', Has o' w w' (.store b A') → Has o w0 w' (.sw b ob A' cur mark fv gone dn nv l) := by
  obtain ⟨o1, h1, p1, _, b1⟩ := Has.left (A := .store b A) h
  exact ⟨o1, h1, p1, fun w' A' h' => b1 _ _ h'⟩
theorem sw_num (h : Has o w0 w (.sw b ob A cur mark fv gone dn nv l)) {g c : Nat} (hnv : nv = .slice (some ⟨g, 0, none⟩) l.length c) {k : Nat} (hk : k < l.length) : w.cell? ⟨g, k, none⟩ = some (.int .i64 (l.getD k 0)) := by
  obtain ⟨_, h1, _⟩ := Has.right (A := .store b A) h
  obtain ⟨_, h2, _⟩ := h1.right
  obtain ⟨p, cap, e, hc⟩ := h2.intsAt
  rw [hnv] at e
  obtain ⟨g2, off, hp, _, hcell⟩ := hc (by omega)
  rw [hp] at e
  obtain ⟨rfl, rfl⟩ : g = g2 ∧ 0 = off := by simp at e; exact ⟨e.1.1, e.1.2⟩
  have := hcell k hk
  rwa [Nat.zero_add] at this

set_option maxHeartbeats 1000000 in
set_option maxRecDepth 100000 in
theorem node_end {p : Option Addr} {c : Nat} (h : Has o w0 w (.sw b ob A (.slice p 0 c) mark fv gone dn nv l)) :
    Calls Tryd.prog 32 #[Pt ob] w fun e w' => e = .returned (.bool true) ∧ w' = w := by
  obtain ⟨_, c1, _⟩ := sw_fields h
  clear h
  go_enter Tryd.func32, Tryd.ntmps32
  go_wp2_with fail
  go_ret
  exact ⟨rfl, rfl⟩

set_option maxHeartbeats 4000000 in
set_option maxRecDepth 100000 in
/-- A node that isn't there, or has no version. -/
theorem node_skip {g k m c cap : Nat} (h : Has o w0 w (.sw b ob A (.slice (some ⟨g, k, none⟩) (m + 1) (c + 1)) mark fv gone dn nv l)) (hnv : nv = .slice (some ⟨g, 0, none⟩) l.length cap) (hk : k + (m + 1) = l.length) (hc : m ≤ c) (hc9 : c < 9223372036854775807)
    (hn : A.isN (l.getD k 0) = false ∨ ∃ i : Nat, l.getD k 0 = (i : Int) + 1 ∧ A.at_ (.head i) = some 0) :
    Calls Tryd.prog 32 #[Pt ob] w fun e w' => e = .returned (.bool false) ∧ ∃ st k', (0 < m → k' = k + 1) ∧ Has o w0 w' (.sw b ob (A.at st) (.slice (some ⟨g, k', none⟩) m c) mark fv gone dn nv l) := by
  obtain ⟨c0, c1, _, _, _, _, zf⟩ := sw_fields h
  have z1 := zf 1 (by omega)
  have cg := sw_num h hnv (k := k) (by omega)
  obtain ⟨k', hk', hview⟩ : ∃ k', (0 < m → k' = k + 1) ∧ ((c = 0 ∧ m = 0 ∧ k' = k) ∨ ∃ c', c = c' + 1 ∧ k' = k + 1) := by
    by_cases h0 : c = 0
    · exact ⟨k, fun h => by omega, .inl ⟨h0, by omega, rfl⟩⟩
    · exact ⟨k + 1, fun _ => rfl, .inr ⟨c - 1, by omega, rfl⟩⟩
  have hX := sw_put h (.slice (some ⟨g, k', none⟩) m c) fv gone dn 1 _ (by omega) ((opF_upd (Pt b) _ mark fv gone dn).1 _)
  have HX := Lib.hid hX
  generalize l.getD k 0 = x at *
  have hm9 : m < 9223372036854775807 := by omega
  by_cases hno : A.isN x = false
  · obtain ⟨o1, h1, _, b1⟩ := sw_store hX
    have HH := Lib.hid (head_no h1 x (isN_no hno))
    clear h zf hX h1 b1 hk hnv hn hno hk'
    rcases hview with ⟨rfl, rfl, rfl⟩ | ⟨c', rfl, rfl⟩
    all_goals (
      go_enter Tryd.func32, Tryd.ntmps32
      go_wp2_with fail
      refine HH.out.mono ?_
      rintro e w' ⟨rfl, rfl⟩
      go_wp2_with fail
      go_ret
      exact ⟨rfl, A.steps, _, fun hm => by first | rfl | omega, HX.out⟩)
  · obtain ⟨i, rfl, hh⟩ := hn.resolve_left hno
    obtain ⟨o1, h1, _, b1⟩ := sw_store hX
    have HH := Lib.hid ((head_at h1 i 0 hh (by omega)).mono (R' := fun e w' => e = .returned (.tuple #[.int .i64 0, .int .i64 0]) ∧ Has o w0 w' (.sw b ob A.step (.slice (some ⟨g, k', none⟩) m c) mark fv gone dn nv l)) (by
      rintro e w' ⟨rfl, h'⟩
      exact ⟨rfl, b1 _ _ h'⟩))
    clear h zf hX h1 b1 hk hnv hn hno hh hk'
    rcases hview with ⟨rfl, rfl, rfl⟩ | ⟨c', rfl, rfl⟩
    all_goals (
      go_enter Tryd.func32, Tryd.ntmps32
      go_wp2_with fail
      refine HH.out.mono ?_
      rintro e w' ⟨rfl, hX2⟩
      have HX2 := Lib.hid hX2
      clear hX2
      go_wp2_with fail
      go_ret
      exact ⟨rfl, wrap64 (A.steps + 1), _, fun hm => by first | rfl | omega, HX2.out⟩)

/-- What a step's call leaves, whatever it is. -/
theorem step_calls {f : FuncId} {first captured : Array Value} {r : Bool} {P : World → Prop} (h : Has o w0 w (.sw b ob A cur mark (.func (.func f) first captured) gone false nv l))
    (he : (callFunc f (first ++ captured)).run Tryd.prog w = .ok (.enter f (first ++ captured)) w)
    (hc : Calls Tryd.prog f (first ++ captured) w fun e w' => e = .returned (.bool r) ∧ P w') (hp : ∀ w', P w' → ∃ u, w'.cell? ⟨ob, 5, none⟩ = some u ∧ w'.frozen? ⟨ob, 5, none⟩ = false) :
    Calls Tryd.prog 11 #[Pt ob] w fun e w' => e = .returned (.bool r) ∧ ∃ w2, P w2 ∧ w' = w2.setCell ⟨ob, 5, none⟩ (.bool r) := by
  obtain ⟨c0, _, _, c3, _, c5, _⟩ := sw_fields h
  have HC := Lib.hid hc
  have HP := Lib.hid hp
  clear h hc hp
  go_enter Tryd.func11, Tryd.ntmps11
  go_wp2_with fail
  refine HC.out.mono ?_
  rintro e w2 ⟨rfl, hP⟩
  obtain ⟨u, x5, z5⟩ := HP.out _ hP
  have HPP := Lib.hid hP
  clear hP
  go_wp2_with fail
  go_ret
  exact ⟨rfl, w2, HPP.out, rfl⟩

theorem enter_node (args : Array Value) (w : World) : (callFunc 32 args).run Tryd.prog w = .ok (.enter 32 args) w := by kernel_rfl
set_option maxHeartbeats 1000000 in
set_option maxRecDepth 100000 in
theorem step_over (h : Has o w0 w (.sw b ob A cur mark fv gone true nv l)) :
    Calls Tryd.prog 11 #[Pt ob] w fun e w' => e = .returned (.bool true) ∧ w' = w := by
  obtain ⟨c0, _, _, c3, _, c5, _⟩ := sw_fields h
  clear h
  go_enter Tryd.func11, Tryd.ntmps11
  go_wp2_with fail
  go_ret
  exact ⟨rfl, rfl⟩
set_option maxHeartbeats 1000000 in
set_option maxRecDepth 100000 in
theorem step_nil (w : World) :
    Calls Tryd.prog 11 #[.pointer none] w fun e w' => e = .returned (.bool true) ∧ w' = w := by
  go_enter Tryd.func11, Tryd.ntmps11
  go_wp2_with fail
  go_ret
  exact ⟨rfl, rfl⟩
set_option maxHeartbeats 1000000 in
set_option maxRecDepth 100000 in
theorem step_none (w : World) (h : w.cell? ⟨ob, 0, none⟩ = some (.pointer none)) :
    Calls Tryd.prog 11 #[Pt ob] w fun e w' => e = .returned (.bool true) ∧ w' = w := by
  go_enter Tryd.func11, Tryd.ntmps11
  go_wp2_with fail
  go_ret
  exact ⟨rfl, rfl⟩
set_option maxHeartbeats 1000000 in
set_option maxRecDepth 100000 in
theorem gone_at (h : Has o w0 w (.sw b ob A cur mark fv gone dn nv l)) :
    Calls Tryd.prog 12 #[Pt ob] w fun e w' => e = .returned (.tuple #[.int .i64 (if dn = true then gone else 0), .int .i64 (if dn = true then 0 else 2)]) ∧ w' = w := by
  obtain ⟨c0, _, _, c3, c4, c5, _⟩ := sw_fields h
  clear h
  cases dn
  all_goals (
    go_enter Tryd.func12, Tryd.ntmps12
    go_wp2_with fail
    go_ret2
    exact ⟨rfl, rfl⟩)
set_option maxHeartbeats 1000000 in
set_option maxRecDepth 100000 in
theorem gone_nil (w : World) :
    Calls Tryd.prog 12 #[.pointer none] w fun e w' => e = .returned (.tuple #[.int .i64 0, .int .i64 1]) ∧ w' = w := by
  go_enter Tryd.func12, Tryd.ntmps12
  go_wp2_with fail
  go_ret2
  exact ⟨rfl, rfl⟩
set_option maxHeartbeats 1000000 in
set_option maxRecDepth 100000 in
theorem gone_none (w : World) (h : w.cell? ⟨ob, 0, none⟩ = some (.pointer none)) :
    Calls Tryd.prog 12 #[Pt ob] w fun e w' => e = .returned (.tuple #[.int .i64 0, .int .i64 1]) ∧ w' = w := by
  go_enter Tryd.func12, Tryd.ntmps12
  go_wp2_with fail
  go_ret2
  exact ⟨rfl, rfl⟩

/-- So many steps more: what stepping to the end does. -/
def Runs (ob : Nat) (R : Nat → World → Prop) (F : World → Prop) : Prop :=
  (∀ n w, R (n + 1) w → Calls Tryd.prog 11 #[Pt ob] w fun e w' => e = .returned (.bool false) ∧ R n w') ∧
  (∀ w, R 0 w → Calls Tryd.prog 11 #[Pt ob] w fun e w' => e = .returned (.bool true) ∧ F w')

set_option maxHeartbeats 1000000 in
set_option maxRecDepth 100000 in
theorem done_walk {R : Nat → World → Prop} {F : World → Prop} (hR : Runs ob R F) (n : Nat) (most : Int) (hm : (n : Int) + 1 ≤ most) (hm9 : most ≤ 1000000000000) (h : R n w) :
    Calls Tryd.prog 20 #[Pt ob, .int .i64 most] w fun e w' => e = .returned (.int .i64 ((n : Int) + 1)) ∧ F w' := by
  have HR := Lib.hid hR
  have H := Lib.hid h
  clear hR h
  go_enter Tryd.func20, Tryd.ntmps20
  go_wp2_with fail
  go_loopg [5] n (fun k iv wr => ∃ i : Nat, i ≤ n ∧ k = n - i ∧ iv = .int .i64 ((i : Int) + 1) ∧ R (n - i) wr)
  case atStart => exact ⟨0, Nat.zero_le _, rfl, rfl, H.out⟩
  case round =>
    clear H
    obtain ⟨i, hi, hk, rfl, hX⟩ := hrel
    have HKK := Lib.hid hk
    have d1 : decide ((i : Int) + 1 ≤ most) = true := by simp; omega
    by_cases hlt : i < n
    · have hx : R (n - (i + 1) + 1) wr := by rw [show n - (i + 1) + 1 = n - i by omega]; exact hX
      have HS := Lib.hid (HR.out.1 _ _ hx)
      clear hk hX hx
      go_wp2_with fail
      refine HS.out.mono ?_
      rintro e w2 ⟨rfl, hX⟩
      have HX := Lib.hid hX
      clear hX
      go_wp2_with fail
      go_roundg (n - (i + 1))
      case measure => rw [HKK.out]; omega
      case rel => exact ⟨i + 1, by omega, rfl, by go_num, HX.out⟩
    · obtain rfl : i = n := by omega
      have hx : R 0 wr := by rw [show i - i = 0 by omega] at hX; exact hX
      have HS := Lib.hid (HR.out.2 _ hx)
      clear hk hX hx
      go_wp2_with fail
      refine HS.out.mono ?_
      rintro e w2 ⟨rfl, hX⟩
      have HX := Lib.hid hX
      clear hX
      go_wp2_with fail
      go_ret
      exact ⟨rfl, HX.out⟩

theorem sw_done (h : Has o w0 w (.sw b ob A cur mark fv gone dn nv l)) (r : Bool) : Has o w0 (w.setCell ⟨ob, 5, none⟩ (.bool r)) (.sw b ob A cur mark fv gone r nv l) :=
  sw_put h cur fv gone r 5 _ (by omega) ((opF_upd (Pt b) cur mark fv gone dn).2.2.2 r)
theorem sw_five (h : Has o w0 w (.sw b ob A cur mark fv gone dn nv l)) : ∃ u, w.cell? ⟨ob, 5, none⟩ = some u ∧ w.frozen? ⟨ob, 5, none⟩ = false := by
  obtain ⟨_, _, _, _, _, c5, z⟩ := sw_fields h
  exact ⟨_, c5, z 5 (by omega)⟩

/-- Step, where node is next and there is nothing to sweep. -/
theorem step_skip {g k m c cap : Nat} (h : Has o w0 w (.sw b ob A (.slice (some ⟨g, k, none⟩) (m + 1) (c + 1)) mark (.func (.func 32) #[Pt ob] #[]) gone false nv l)) (hnv : nv = .slice (some ⟨g, 0, none⟩) l.length cap) (hk : k + (m + 1) = l.length) (hc : m ≤ c) (hc9 : c < 9223372036854775807)
    (hn : A.isN (l.getD k 0) = false ∨ ∃ i : Nat, l.getD k 0 = (i : Int) + 1 ∧ A.at_ (.head i) = some 0) :
    Calls Tryd.prog 11 #[Pt ob] w fun e w' => e = .returned (.bool false) ∧ ∃ st k', (0 < m → k' = k + 1) ∧ Has o w0 w' (.sw b ob (A.at st) (.slice (some ⟨g, k', none⟩) m c) mark (.func (.func 32) #[Pt ob] #[]) gone false nv l) := by
  refine (step_calls h (enter_node _ _) (node_skip h hnv hk hc hc9 hn) (fun w' => ?_)).mono ?_
  · rintro ⟨st, k', _, h'⟩
    exact sw_five h'
  · rintro e w' ⟨rfl, w2, ⟨st, k', h1, h2⟩, rfl⟩
    exact ⟨rfl, st, k', h1, sw_done h2 false⟩
theorem step_end {p : Option Addr} {c : Nat} (h : Has o w0 w (.sw b ob A (.slice p 0 c) mark (.func (.func 32) #[Pt ob] #[]) gone false nv l)) :
    Calls Tryd.prog 11 #[Pt ob] w fun e w' => e = .returned (.bool true) ∧ Has o w0 w' (.sw b ob A (.slice p 0 c) mark (.func (.func 32) #[Pt ob] #[]) gone true nv l) := by
  refine (step_calls h (enter_node _ _) ((node_end h).mono (R' := fun e w' => e = .returned (.bool true) ∧ Has o w0 w' (.sw b ob A (.slice p 0 c) mark (.func (.func 32) #[Pt ob] #[]) gone false nv l)) ?_) (fun w' h' => sw_five h')).mono ?_
  · rintro e w' ⟨rfl, rfl⟩
    exact ⟨rfl, h⟩
  · rintro e w' ⟨rfl, w2, h2, rfl⟩
    exact ⟨rfl, sw_done h2 true⟩
end Go.Proofs.YtbodobdllchmgaaDoor
