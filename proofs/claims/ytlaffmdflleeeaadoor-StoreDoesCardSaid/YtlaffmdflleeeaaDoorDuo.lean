/- The store and the reference's store, step by step: the same answers, and the same plain store behind. -/
import Derived.Test.YtlaffmdflleeeaaDoorStoreRest
import Derived.Test.YtlaffmdflleeeaaDoorRefCut
import Derived.Test.YtlaffmdflleeeaaDoorStoreVerNo
namespace Go.Proofs.YtlaffmdflleeeaaDoor
open Go Go.RowKit
set_option linter.unusedVariables false

variable {o : List Nat} {w0 w : World} {b rb : Nat} {A A' : ASt} {rs rs' : Int}

/-- What a step may do to the plain store. -/
structure Nxt (A A' : ASt) : Prop where
  size : A'.size = A.size
  ab : A'.ab = A.ab
  nN : A'.nN ≤ A.nN + 1
  nV : A'.nV ≤ A.nV + 1
  nT : A'.nT ≤ A.nT + 1
theorem Nxt.refl (A : ASt) : Nxt A A := ⟨rfl, rfl, by omega, by omega, by omega⟩
theorem Nxt.set (A : ASt) (l : Loc) (v : Int) : Nxt A (A.set l v) := ⟨A.size_set l v, A.ab_set l v, by rw [A.nN_set]; omega, by rw [A.nV_set]; omega, by rw [A.nT_set]; omega⟩

def stp (d : Bool) (s : Int) : Int := if d = true then wrap64 (s + 1) else s

noncomputable def Part.two (b rb : Nat) (A A' : ASt) (rs : Int) : Part := (Part.store b A).sep (.rstore rb A' rs)

/-- Two calls, one behind the other: the same answer. -/
def Duo (o : List Nat) (w0 w : World) (b rb : Nat) (A : ASt) (rs : Int) (touch : Bool) (f g : FuncId) (fa ga : Array Value) (v : Value) : Prop :=
  ∃ (A' : ASt) (d : Bool) (rs' : Int), Nxt A A' ∧ (touch = true → rs' = stp d rs) ∧
    Calls Tryd.prog f fa w (fun e w' => e = .returned v ∧ ∃ st, (touch = true → st = stp d A.steps) ∧ Has o w0 w' (.two b rb (A'.at st) A rs)) ∧
    ∀ o2 w1 st, Has o2 w1 w1 (.two b rb (A'.at st) A rs) → Calls Tryd.prog g ga w1 (fun e w' => e = .returned v ∧ Has o2 w1 w' (.two b rb (A'.at st) (A'.at st) rs'))

theorem duo_mk {touch : Bool} {f g : FuncId} {fa ga : Array Value} {v : Value} (A' : ASt) (d : Bool) (rs' : Int) (h : Has o w0 w (.two b rb A A rs)) (nx : Nxt A A') (ht : touch = true → rs' = stp d rs)
    (c1 : ∀ o1, Has o1 w w (.store b A) → (∀ y ∈ o1, y ∈ o ∨ w0.heap.size ≤ y) → Calls Tryd.prog f fa w (fun e w' => e = .returned v ∧ ∃ st, (touch = true → st = stp d A.steps) ∧ Has o1 w w' (.store b (A'.at st))))
    (c2 : ∀ o2 w1, Has o2 w1 w1 (.rstore rb A rs) → Calls Tryd.prog g ga w1 (fun e w' => e = .returned v ∧ Has o2 w1 w' (.rstore rb A' rs'))) : Duo o w0 w b rb A rs touch f g fa ga v := by
  refine ⟨A', d, rs', nx, ht, ?_, fun o3 w1 st h1 => ?_⟩
  · obtain ⟨o1, h1, p1, _, b1⟩ := Has.left (A := .store b A) (B := .rstore rb A rs) h
    refine (c1 o1 h1 p1).mono ?_
    rintro e w' ⟨rfl, st, hs, h'⟩
    exact ⟨rfl, st, hs, b1 _ _ h'⟩
  · obtain ⟨o2, h2, _, _, b2⟩ := Has.right (A := .store b (A'.at st)) (B := .rstore rb A rs) h1
    refine (c2 o2 w1 h2).mono ?_
    rintro e w' ⟨rfl, h'⟩
    exact ⟨rfl, b2 _ _ h'⟩

/-- An answer that leaves all as it was. -/
theorem duo_same {touch : Bool} {f g : FuncId} {fa ga : Array Value} {v : Value} (h : Has o w0 w (.two b rb A A rs))
    (c1 : ∀ o1, Has o1 w w (.store b A) → Calls Tryd.prog f fa w (fun e w' => e = .returned v ∧ w' = w))
    (c2 : ∀ o2 w1, Has o2 w1 w1 (.rstore rb A rs) → Calls Tryd.prog g ga w1 (fun e w' => e = .returned v ∧ w' = w1)) : Duo o w0 w b rb A rs touch f g fa ga v := by
  refine duo_mk A false rs h (.refl A) (fun _ => rfl) (fun o1 h1 _ => (c1 o1 h1).mono ?_) (fun o2 w1 h2 => (c2 o2 w1 h2).mono ?_)
  · rintro e w' ⟨rfl, rfl⟩
    exact ⟨rfl, A.steps, fun _ => rfl, h1⟩
  · rintro e w' ⟨rfl, rfl⟩
    exact ⟨rfl, h2⟩
/-- A touch that lays nothing. -/
theorem duo_step {touch : Bool} {f g : FuncId} {fa ga : Array Value} {v : Value} (h : Has o w0 w (.two b rb A A rs))
    (c1 : ∀ o1, Has o1 w w (.store b A) → Calls Tryd.prog f fa w (fun e w' => e = .returned v ∧ Has o1 w w' (.store b A.step)))
    (c2 : ∀ o2 w1, Has o2 w1 w1 (.rstore rb A rs) → Calls Tryd.prog g ga w1 (fun e w' => e = .returned v ∧ Has o2 w1 w' (.rstore rb A (wrap64 (rs + 1))))) : Duo o w0 w b rb A rs touch f g fa ga v := by
  refine duo_mk A true (wrap64 (rs + 1)) h (.refl A) (fun _ => rfl) (fun o1 h1 _ => (c1 o1 h1).mono ?_) (fun o2 w1 h2 => c2 o2 w1 h2)
  rintro e w' ⟨rfl, h'⟩
  exact ⟨rfl, wrap64 (A.steps + 1), fun _ => rfl, h'⟩
theorem at_set_step (A : ASt) (l : Loc) (q : Int) : A.step.set l q = (A.set l q).at (wrap64 (A.steps + 1)) := by cases l <;> rfl
/-- A touch that lays a number. -/
theorem duo_set {touch : Bool} {f g : FuncId} {fa ga : Array Value} {v : Value} (l : Loc) (q : Int) (h : Has o w0 w (.two b rb A A rs))
    (c1 : ∀ o1, Has o1 w w (.store b A) → Calls Tryd.prog f fa w (fun e w' => e = .returned v ∧ Has o1 w w' (.store b (A.step.set l q))))
    (c2 : ∀ o2 w1, Has o2 w1 w1 (.rstore rb A rs) → Calls Tryd.prog g ga w1 (fun e w' => e = .returned v ∧ Has o2 w1 w' (.rstore rb (A.set l q) (wrap64 (rs + 1))))) : Duo o w0 w b rb A rs touch f g fa ga v := by
  refine duo_mk (A.set l q) true (wrap64 (rs + 1)) h (.set A l q) (fun _ => rfl) (fun o1 h1 _ => (c1 o1 h1).mono ?_) (fun o2 w1 h2 => c2 o2 w1 h2)
  rintro e w' ⟨rfl, h'⟩
  rw [at_set_step] at h'
  exact ⟨rfl, wrap64 (A.steps + 1), fun _ => rfl, h'⟩

/-- The same beside other things. -/
def DuoB (o : List Nat) (w0 w : World) (b rb : Nat) (A : ASt) (rs : Int) (touch : Bool) (f g : FuncId) (fa ga : Array Value) (v : Value) (B : Part) : Prop :=
  ∃ (A' : ASt) (d : Bool) (rs' : Int), Nxt A A' ∧ (touch = true → rs' = stp d rs) ∧
    Calls Tryd.prog f fa w (fun e w' => e = .returned v ∧ ∃ st, (touch = true → st = stp d A.steps) ∧ Has o w0 w' ((Part.two b rb (A'.at st) A rs).sep B)) ∧
    ∀ w1 st, Has o w0 w1 ((Part.two b rb (A'.at st) A rs).sep B) → Calls Tryd.prog g ga w1 (fun e w' => e = .returned v ∧ Has o w0 w' ((Part.two b rb (A'.at st) (A'.at st) rs').sep B))
theorem Duo.beside {o1 : List Nat} {touch : Bool} {f g : FuncId} {fa ga : Array Value} {v : Value} {B : Part} (D : Duo o1 w w b rb A rs touch f g fa ga v) (b1 : ∀ w' X, Has o1 w w' X → Has o w0 w' (X.sep B)) : DuoB o w0 w b rb A rs touch f g fa ga v B := by
  obtain ⟨A', d, rs', nx, ht, c1, c2⟩ := D
  refine ⟨A', d, rs', nx, ht, c1.mono ?_, fun w1 st h1 => ?_⟩
  · rintro e w' ⟨rfl, st, hs, h'⟩
    exact ⟨rfl, st, hs, b1 _ _ h'⟩
  · obtain ⟨o2, h2, _, _, b2⟩ := h1.left
    refine (c2 o2 w1 st h2).mono ?_
    rintro e w' ⟨rfl, h'⟩
    exact ⟨rfl, b2 _ _ h'⟩

theorem two_ok (h : Has o w0 w (.two b rb A A' rs)) : AOk A := by
  obtain ⟨o1, h1, _⟩ := Has.left (A := .store b A) (B := .rstore rb A' rs) h
  exact h1.stOk

theorem some_of {A : ASt} {i : Nat} (hi : i < A.nN) : A.at_ (.head i) = some (A.N i).1 ∧ A.at_ (.lock i) = some (A.N i).2 := ⟨if_pos hi, if_pos hi⟩
theorem some_ofV {A : ASt} {i : Nat} (hi : A.ver i = true) : A.at_ (.begin_ i) = some (A.V i).begin_ ∧ A.at_ (.end_ i) = some (A.V i).end_ ∧ A.at_ (.next i) = some (A.V i).next := ⟨if_pos hi, if_pos hi, if_pos hi⟩
theorem some_ofT {A : ASt} {i : Nat} (hi : A.txn i = true) : A.at_ (.state i) = some (A.T i).1 := if_pos hi

abbrev P0 (b : Nat) : Value := .pointer (some ⟨b, 0, none⟩)

theorem duo_head (h : Has o w0 w (.two b rb A A rs)) (n : Int) (hV : A.nV ≤ 1000000000) :
    ∃ x c : Int, Duo o w0 w b rb A rs true 25 52 #[P0 b, .int .i64 n] #[P0 rb, .int .i64 n] (.tuple #[.int .i64 x, .int .i64 c]) := by
  by_cases hn : A.isN n = true
  · obtain ⟨i, rfl, hi⟩ := isN_at hn
    have hv := (some_of hi).1
    have hle := (two_ok h).headLe i _ hv
    exact ⟨(A.N i).1, 0, duo_step h (fun o1 h1 => head_at h1 i _ hv (by omega)) (fun o2 w1 h2 => rhead_at h2 i _ hv)⟩
  · have hn' : A.isN n = false := by simpa using hn
    exact ⟨0, 110, duo_same h (fun o1 h1 => head_no h1 n (isN_no hn')) (fun o2 w1 h2 => rhead_no h2 n hn')⟩

theorem duo_lock (h : Has o w0 w (.two b rb A A rs)) (n : Int) :
    ∃ x c : Int, Duo o w0 w b rb A rs true 62 63 #[P0 b, .int .i64 n] #[P0 rb, .int .i64 n] (.tuple #[.int .u64 x, .int .i64 c]) := by
  by_cases hn : A.isN n = true
  · obtain ⟨i, rfl, hi⟩ := isN_at hn
    have hv := (some_of hi).2
    exact ⟨(A.N i).2, 0, duo_step h (fun o1 h1 => lock_at h1 i _ hv) (fun o2 w1 h2 => rlock_at h2 i _ hv)⟩
  · have hn' : A.isN n = false := by simpa using hn
    exact ⟨0, 110, duo_same h (fun o1 h1 => lock_no h1 n (isN_no hn')) (fun o2 w1 h2 => rlock_no h2 n hn')⟩

theorem duo_state (h : Has o w0 w (.two b rb A A rs)) (n : Int) :
    ∃ x c : Int, Duo o w0 w b rb A rs true 60 61 #[P0 b, .int .i64 n] #[P0 rb, .int .i64 n] (.tuple #[.int .u64 x, .int .i64 c]) := by
  by_cases hn : A.isT n = true
  · obtain ⟨i, rfl, hi⟩ := isT_at hn
    have hv := some_ofT hi
    exact ⟨(A.T i).1, 0, duo_step h (fun o1 h1 => state_at h1 i _ hv) (fun o2 w1 h2 => rstate_at h2 i _ hv)⟩
  · have hn' : A.isT n = false := by simpa using hn
    exact ⟨0, 110, duo_same h (fun o1 h1 => state_no h1 n (isT_no hn')) (fun o2 w1 h2 => rstate_no h2 n hn')⟩

theorem duo_val (h : Has o w0 w (.two b rb A A rs)) (n : Int) :
    ∃ (x : ByteArray) (c : Int), Duo o w0 w b rb A rs true 28 71 #[P0 b, .int .i64 n] #[P0 rb, .int .i64 n] (.tuple #[.string x, .int .i64 c]) := by
  by_cases hn : A.isV n = true
  · obtain ⟨i, rfl, hi⟩ := isV_at hn
    exact ⟨(A.V i).val, 0, duo_same h (fun o1 h1 => val_at h1 i hi) (fun o2 w1 h2 => rval_at h2 i hi)⟩
  · have hn' : A.isV n = false := by simpa using hn
    exact ⟨default, 110, duo_same h (fun o1 h1 => val_none h1 n hn') (fun o2 w1 h2 => rval_no h2 n hn')⟩

theorem duo_begin (h : Has o w0 w (.two b rb A A rs)) (n : Int) :
    ∃ x c : Int, Duo o w0 w b rb A rs true 26 59 #[P0 b, .int .i64 n] #[P0 rb, .int .i64 n, .int .i64 0] (.tuple #[.int .u64 x, .int .i64 c]) := by
  by_cases hn : A.isV n = true
  · obtain ⟨i, rfl, hi⟩ := isV_at hn
    have hv := (some_ofV hi).1
    exact ⟨_, 0, duo_step h (fun o1 h1 => begin_at h1 i _ hv) (fun o2 w1 h2 => rword0_at h2 i _ hv)⟩
  · have hn' : A.isV n = false := by simpa using hn
    exact ⟨0, 110, duo_same h (fun o1 h1 => begin_no h1 n (isV_no hn')) (fun o2 w1 h2 => rword_no h2 n 0 hn')⟩
theorem duo_end (h : Has o w0 w (.two b rb A A rs)) (n : Int) :
    ∃ x c : Int, Duo o w0 w b rb A rs true 15 59 #[P0 b, .int .i64 n] #[P0 rb, .int .i64 n, .int .i64 1] (.tuple #[.int .u64 x, .int .i64 c]) := by
  by_cases hn : A.isV n = true
  · obtain ⟨i, rfl, hi⟩ := isV_at hn
    have hv := (some_ofV hi).2.1
    exact ⟨_, 0, duo_step h (fun o1 h1 => end_at h1 i _ hv) (fun o2 w1 h2 => rword1_at h2 i _ hv)⟩
  · have hn' : A.isV n = false := by simpa using hn
    exact ⟨0, 110, duo_same h (fun o1 h1 => end_no h1 n (isV_no hn')) (fun o2 w1 h2 => rword_no h2 n 1 hn')⟩

set_option maxHeartbeats 1000000 in
set_option maxRecDepth 100000 in
/-- The statement's own 'words'. -/
theorem words_begin (P : Ending → World → Prop) (n : Int) (x c : Int) (hc : Calls Tryd.prog 26 #[P0 b, .int .i64 n] w fun e w' => e = .returned (.tuple #[.int .u64 x, .int .i64 c]) ∧ P e w') :
    Calls Tryd.prog 58 #[P0 b, .int .i64 n, .int .i64 0] w fun e w' => e = .returned (.tuple #[.int .u64 x, .int .i64 c]) ∧ P e w' := by
  have HC := Lib.hid hc
  clear hc
  go_enter Tryd.func58, Tryd.ntmps58
  go_wp2_with fail
  refine HC.out.mono ?_
  rintro e w' ⟨rfl, hP⟩
  have HP := Lib.hid hP
  clear hP
  go_wp2_with fail
  go_ret2
  exact ⟨rfl, HP.out⟩
set_option maxHeartbeats 1000000 in
set_option maxRecDepth 100000 in
theorem words_end (P : Ending → World → Prop) (n : Int) (x c : Int) (hc : Calls Tryd.prog 15 #[P0 b, .int .i64 n] w fun e w' => e = .returned (.tuple #[.int .u64 x, .int .i64 c]) ∧ P e w') :
    Calls Tryd.prog 58 #[P0 b, .int .i64 n, .int .i64 1] w fun e w' => e = .returned (.tuple #[.int .u64 x, .int .i64 c]) ∧ P e w' := by
  have HC := Lib.hid hc
  clear hc
  go_enter Tryd.func58, Tryd.ntmps58
  go_wp2_with fail
  refine HC.out.mono ?_
  rintro e w' ⟨rfl, hP⟩
  have HP := Lib.hid hP
  clear hP
  go_wp2_with fail
  go_ret2
  exact ⟨rfl, HP.out⟩
set_option maxHeartbeats 1000000 in
set_option maxRecDepth 100000 in
theorem words_next (P : Ending → World → Prop) (n : Int) (x c : Int) (hx0 : 0 ≤ x) (hx1 : x < 9223372036854775808) (hc : Calls Tryd.prog 83 #[P0 b, .int .i64 n] w fun e w' => e = .returned (.tuple #[.int .i64 x, .int .i64 c]) ∧ P (.returned (.tuple #[.int .u64 x, .int .i64 c])) w') :
    Calls Tryd.prog 58 #[P0 b, .int .i64 n, .int .i64 2] w fun e w' => e = .returned (.tuple #[.int .u64 x, .int .i64 c]) ∧ P e w' := by
  have HC := Lib.hid hc
  have e9 : IntKind.u64.wrap x = x := by unfold IntKind.wrap; simp [IntKind.bits, IntKind.signed]; omega
  clear hc
  go_enter Tryd.func58, Tryd.ntmps58
  go_wp2_with fail
  refine HC.out.mono ?_
  rintro e w' ⟨rfl, hP⟩
  have HP := Lib.hid hP
  clear hP
  go_wp2_with fail
  go_ret2
  exact ⟨rfl, HP.out⟩

theorem duo_words (h : Has o w0 w (.two b rb A A rs)) (hV : A.nV ≤ 1000000000) (n k : Int) (hk : k = 0 ∨ k = 1 ∨ k = 2) :
    ∃ x c : Int, Duo o w0 w b rb A rs true 58 59 #[P0 b, .int .i64 n, .int .i64 k] #[P0 rb, .int .i64 n, .int .i64 k] (.tuple #[.int .u64 x, .int .i64 c]) := by
  rcases hk with rfl | rfl | rfl
  · obtain ⟨x, c, A', d, rs', h1, h2, h3, h4⟩ := duo_begin h n
    exact ⟨x, c, A', d, rs', h1, h2, words_begin (fun e w' => ∃ st, (true = true → st = stp d A.steps) ∧ Has o w0 w' (.two b rb (A'.at st) A rs)) n x c h3, h4⟩
  · obtain ⟨x, c, A', d, rs', h1, h2, h3, h4⟩ := duo_end h n
    exact ⟨x, c, A', d, rs', h1, h2, words_end (fun e w' => ∃ st, (true = true → st = stp d A.steps) ∧ Has o w0 w' (.two b rb (A'.at st) A rs)) n x c h3, h4⟩
  · by_cases hn : A.isV n = true
    · obtain ⟨i, rfl, hi⟩ := isV_at hn
      have hv := (some_ofV hi).2.2
      have hle := (two_ok h).nextLe i _ hv
      have hwd := (two_ok h).word _ _ hv
      have hlt := ver_lt hi
      exact ⟨_, 0, duo_step h (fun o1 h1 => words_next (fun e w' => Has o1 w w' (.store b A.step)) _ _ _ (by omega) (by omega) (next_at h1 i _ hv (by omega))) (fun o2 w1 h2 => rword2_at h2 i _ hv (by omega) (by omega))⟩
    · have hn' : A.isV n = false := by simpa using hn
      exact ⟨0, 110, duo_same h (fun o1 h1 => words_next (fun e w' => w' = w) _ _ _ (by omega) (by omega) (next_no h1 n (isV_no hn'))) (fun o2 w1 h2 => rword_no h2 n 2 hn')⟩

theorem duo_push (h : Has o w0 w (.two b rb A A rs)) (hV : A.nV ≤ 1000000000) (n p q : Int) :
    ∃ (x : Bool) (c : Int), Duo o w0 w b rb A rs true 17 54 #[P0 b, .int .i64 n, .int .i64 p, .int .i64 q] #[P0 rb, .int .i64 n, .int .i64 p, .int .i64 q] (.tuple #[.bool x, .int .i64 c]) := by
  by_cases hno : A.isN n = false ∨ (p ≠ 0 ∧ A.isV p = false) ∨ A.isV q = false
  · exact ⟨false, 110, duo_same h (fun o1 h1 => push_none h1 n p q hno) (fun o2 w1 h2 => rpush_no h2 n p q hno)⟩
  · have hn : A.isN n = true := by
      cases hx : A.isN n
      · exact absurd (.inl hx) hno
      · rfl
    have hq : A.isV q = true := by
      cases hx : A.isV q
      · exact absurd (.inr (.inr hx)) hno
      · rfl
    have hp : p = 0 ∨ A.isV p = true := by
      by_cases h0 : p = 0
      · exact .inl h0
      · cases hx : A.isV p
        · exact absurd (.inr (.inl ⟨h0, hx⟩)) hno
        · exact .inr rfl
    obtain ⟨i, rfl, hi⟩ := isN_at hn
    obtain ⟨j, rfl, hj⟩ := isV_at hq
    have hv := (some_of hi).1
    by_cases he : (A.N i).1 = p
    · rw [he] at hv
      refine ⟨true, 0, duo_set (.head i) ((j : Int) + 1) h (fun o1 h1 => ?_) (fun o2 w1 h2 => rpush_yes h2 i p _ hv hp hq)⟩
      rcases hp with rfl | hp
      · exact push_first h1 i j hv hj hV
      · obtain ⟨k, rfl, hk⟩ := isV_at hp
        exact push_over h1 i j k hk hv hj hV
    · refine ⟨false, 0, duo_step h (fun o1 h1 => ?_) (fun o2 w1 h2 => rpush_not h2 i _ p _ hv he hp hq)⟩
      rcases hp with rfl | hp
      · exact push_first_not h1 i j _ hv hj he hV
      · obtain ⟨k, rfl, hk⟩ := isV_at hp
        exact push_over_not h1 i j k hk _ hv hj he hV

theorem duo_takeEnd (h : Has o w0 w (.two b rb A A rs)) (n p q : Int) (hq0 : 0 ≤ q) (hq1 : q < 18446744073709551616) :
    ∃ (x : Bool) (c : Int), Duo o w0 w b rb A rs true 14 55 #[P0 b, .int .i64 n, .int .u64 p, .int .u64 q] #[P0 rb, .int .i64 n, .int .u64 p, .int .u64 q] (.tuple #[.bool x, .int .i64 c]) := by
  by_cases hn : A.isV n = true
  · obtain ⟨i, rfl, hi⟩ := isV_at hn
    have hv := (some_ofV hi).2.1
    cases hq : wOk q
    · exact ⟨false, 50, duo_same h (fun o1 h1 => takeEnd_bad h1 i _ p q hv hq0 hq1 hq) (fun o2 w1 h2 => rtakeEnd_bad h2 _ p q hn hq0 hq1 hq)⟩
    · by_cases he : (A.V i).end_ = p
      · rw [he] at hv
        exact ⟨true, 0, duo_set (.end_ i) q h (fun o1 h1 => takeEnd_yes h1 i p q hv hq0 hq1 hq) (fun o2 w1 h2 => rtakeEnd_yes h2 i p q hv hq0 hq1 hq)⟩
      · exact ⟨false, 0, duo_step h (fun o1 h1 => takeEnd_not h1 i _ p q hv he hq0 hq1 hq) (fun o2 w1 h2 => rtakeEnd_not h2 i _ p q hv he hq0 hq1 hq)⟩
  · have hn' : A.isV n = false := by simpa using hn
    exact ⟨false, 110, duo_same h (fun o1 h1 => takeEnd_no h1 n (isV_no hn') p q) (fun o2 w1 h2 => rtakeEnd_no h2 n p q hq0 hq1 hn')⟩

theorem duo_takeLock (h : Has o w0 w (.two b rb A A rs)) (n p q : Int) (hq0 : 0 ≤ q) (hq1 : q < 18446744073709551616) :
    ∃ (x : Bool) (c : Int), Duo o w0 w b rb A rs true 56 57 #[P0 b, .int .i64 n, .int .u64 p, .int .u64 q] #[P0 rb, .int .i64 n, .int .u64 p, .int .u64 q] (.tuple #[.bool x, .int .i64 c]) := by
  by_cases hn : A.isN n = true
  · obtain ⟨i, rfl, hi⟩ := isN_at hn
    have hv := (some_of hi).2
    by_cases he : (A.N i).2 = p
    · rw [he] at hv
      exact ⟨true, 0, duo_set (.lock i) q h (fun o1 h1 => takeLock_yes h1 i p q hv hq0 hq1) (fun o2 w1 h2 => rtakeLock_yes h2 i p q hv)⟩
    · exact ⟨false, 0, duo_step h (fun o1 h1 => takeLock_not h1 i _ p q hv he hq0 hq1) (fun o2 w1 h2 => rtakeLock_not h2 i _ p q hv he)⟩
  · have hn' : A.isN n = false := by simpa using hn
    exact ⟨false, 110, duo_same h (fun o1 h1 => takeLock_no h1 n (isN_no hn') p q) (fun o2 w1 h2 => rtakeLock_no h2 n p q hn')⟩

theorem duo_setBegin (h : Has o w0 w (.two b rb A A rs)) (n q : Int) (hq0 : 0 ≤ q) (hq1 : q < 18446744073709551616) :
    ∃ c : Int, Duo o w0 w b rb A rs true 64 65 #[P0 b, .int .i64 n, .int .u64 q] #[P0 rb, .int .i64 n, .int .u64 q] (.int .i64 c) := by
  by_cases hn : A.isV n = true
  · obtain ⟨i, rfl, hi⟩ := isV_at hn
    have hv := (some_ofV hi).1
    cases hq : wBegins q
    · exact ⟨50, duo_same h (fun o1 h1 => setBegin_bad h1 i _ q hv hq0 hq1 hq) (fun o2 w1 h2 => rsetBegin_bad h2 _ q hn hq0 hq1 hq)⟩
    · exact ⟨0, duo_set (.begin_ i) q h (fun o1 h1 => setBegin_at h1 i _ q hv hq0 hq1 hq) (fun o2 w1 h2 => rsetBegin_at h2 i _ q hv hq0 hq1 hq)⟩
  · have hn' : A.isV n = false := by simpa using hn
    exact ⟨110, duo_same h (fun o1 h1 => setBegin_no h1 n (isV_no hn') q) (fun o2 w1 h2 => rsetBegin_no h2 n q hq0 hq1 hn')⟩
theorem duo_setEnd (h : Has o w0 w (.two b rb A A rs)) (n q : Int) (hq0 : 0 ≤ q) (hq1 : q < 18446744073709551616) :
    ∃ c : Int, Duo o w0 w b rb A rs true 66 67 #[P0 b, .int .i64 n, .int .u64 q] #[P0 rb, .int .i64 n, .int .u64 q] (.int .i64 c) := by
  by_cases hn : A.isV n = true
  · obtain ⟨i, rfl, hi⟩ := isV_at hn
    have hv := (some_ofV hi).2.1
    cases hq : wOk q
    · exact ⟨50, duo_same h (fun o1 h1 => setEnd_bad h1 i _ q hv hq0 hq1 hq) (fun o2 w1 h2 => rsetEnd_bad h2 _ q hn hq0 hq1 hq)⟩
    · exact ⟨0, duo_set (.end_ i) q h (fun o1 h1 => setEnd_at h1 i _ q hv hq0 hq1 hq) (fun o2 w1 h2 => rsetEnd_at h2 i _ q hv hq0 hq1 hq)⟩
  · have hn' : A.isV n = false := by simpa using hn
    exact ⟨110, duo_same h (fun o1 h1 => setEnd_no h1 n (isV_no hn') q) (fun o2 w1 h2 => rsetEnd_no h2 n q hq0 hq1 hn')⟩
theorem duo_setState (h : Has o w0 w (.two b rb A A rs)) (n q : Int) (hq0 : 0 ≤ q) (hq1 : q < 18446744073709551616) :
    ∃ c : Int, Duo o w0 w b rb A rs true 27 68 #[P0 b, .int .i64 n, .int .u64 q] #[P0 rb, .int .i64 n, .int .u64 q] (.int .i64 c) := by
  by_cases hn : A.isT n = true
  · obtain ⟨i, rfl, hi⟩ := isT_at hn
    have hv := some_ofT hi
    cases hq : uOk q
    · exact ⟨50, duo_same h (fun o1 h1 => setState_bad h1 i _ q hv hq0 hq1 hq) (fun o2 w1 h2 => rsetState_bad h2 _ q hn hq0 hq1 hq)⟩
    · exact ⟨0, duo_set (.state i) q h (fun o1 h1 => setState_at h1 i _ q hv hq0 hq1 hq) (fun o2 w1 h2 => rsetState_at h2 i _ q hv hq0 hq1 hq)⟩
  · have hn' : A.isT n = false := by simpa using hn
    exact ⟨110, duo_same h (fun o1 h1 => setState_none h1 n q hn') (fun o2 w1 h2 => rsetState_no h2 n q hq0 hq1 hn')⟩

theorem duo_forget (h : Has o w0 w (.two b rb A A rs)) (n : Int) :
    ∃ c : Int, Duo o w0 w b rb A rs false 23 69 #[P0 b, .int .i64 n] #[P0 rb, .int .i64 n] (.int .i64 c) := by
  by_cases hn : A.isT n = true
  · obtain ⟨i, rfl, hi⟩ := isT_at hn
    have hok := two_ok h
    refine ⟨0, duo_mk (A.goneT i) false rs h ⟨rfl, rfl, by show A.nN ≤ _; omega, by show A.nV ≤ _; omega, by show A.nT ≤ _; omega⟩ (fun e => by cases e) (fun o1 h1 _ => (forget_at h1 i hi).mono ?_) (fun o2 w1 h2 => rforget_at h2 i hi hok.big hok.fit)⟩
    rintro e w' ⟨rfl, h'⟩
    exact ⟨rfl, A.steps, fun e => (by cases e), h'⟩
  · have hn' : A.isT n = false := by simpa using hn
    exact ⟨110, duo_same h (fun o1 h1 => forget_none h1 n hn') (fun o2 w1 h2 => rforget_no h2 n hn')⟩

theorem two_tab (hT : TabAt w0) (ho : 0 ∉ o) (h : Has o w0 w (.two b rb A A' rs)) : TabAt w := hT.kept h.keeps ho

theorem duo_node (h : Has o w0 w (.two b rb A A rs)) (hT : TabAt w0) (ho : 0 ∉ o) (hN : A.nN ≤ 1000000000) :
    ∃ x c : Int, Duo o w0 w b rb A rs false 16 49 #[P0 b] #[P0 rb] (.tuple #[.int .i64 x, .int .i64 c]) := by
  have hok := two_ok h
  have hTw := two_tab hT ho h
  by_cases hf : A.used + 2 ≤ A.size
  · refine ⟨_, 0, duo_mk (A.addNode A.steps) false rs h ⟨rfl, rfl, Nat.le_refl _, by show A.nV ≤ _; omega, by show A.nT ≤ _; omega⟩ (fun e => by cases e) (fun o1 h1 p1 => (node_make h1 hTw (tab_out hT ho p1) hf).mono ?_) (fun o2 w1 h2 => rnode_make h2 (by unfold ASt.free; omega) hN hok.big A.steps)⟩
    rintro e w' ⟨rfl, st, h'⟩
    exact ⟨rfl, st, fun e => (by cases e), h'⟩
  · refine ⟨0, 31, duo_mk A false rs h (.refl A) (fun e => by cases e) (fun o1 h1 p1 => (node_full h1 hTw (tab_out hT ho p1) (by omega)).mono ?_) (fun o2 w1 h2 => (rnode_full h2 (by unfold ASt.free; omega)).mono ?_)⟩
    · rintro e w' ⟨rfl, h'⟩
      exact ⟨rfl, A.steps, fun e => (by cases e), h'⟩
    · rintro e w' ⟨rfl, rfl⟩
      exact ⟨rfl, h2⟩

theorem duo_txn (h : Has o w0 w (.two b rb A A rs)) (hT : TabAt w0) (ho : 0 ∉ o) (hN : A.nT ≤ 1000000000) :
    ∃ x c : Int, Duo o w0 w b rb A rs false 22 51 #[P0 b] #[P0 rb] (.tuple #[.int .i64 x, .int .i64 c]) := by
  have hok := two_ok h
  have hTw := two_tab hT ho h
  by_cases hm : (A.nT : Int) + 1 < 1048576
  · by_cases hf : A.used + 1 ≤ A.size
    · refine ⟨_, 0, duo_mk (A.addTxn A.steps) false rs h ⟨rfl, rfl, by show A.nN ≤ _; omega, by show A.nV ≤ _; omega, Nat.le_refl _⟩ (fun e => by cases e) (fun o1 h1 p1 => (txn_make h1 hTw (tab_out hT ho p1) hf (by omega)).mono ?_) (fun o2 w1 h2 => rtxn_make h2 (by unfold ASt.free; omega) hm hok.big A.steps)⟩
      rintro e w' ⟨rfl, st, h'⟩
      exact ⟨rfl, st, fun e => (by cases e), h'⟩
    · refine ⟨0, 31, duo_mk A false rs h (.refl A) (fun e => by cases e) (fun o1 h1 p1 => (txn_full h1 hTw (tab_out hT ho p1) hm (by omega)).mono ?_) (fun o2 w1 h2 => (rtxn_full h2 (.inl (by unfold ASt.free; omega)) hN).mono ?_)⟩
      · rintro e w' ⟨rfl, h'⟩
        exact ⟨rfl, A.steps, fun e => (by cases e), h'⟩
      · rintro e w' ⟨rfl, rfl⟩
        exact ⟨rfl, h2⟩
  · exact ⟨0, 31, duo_same h (fun o1 h1 => txn_many h1 (by omega) hN) (fun o2 w1 h2 => rtxn_full h2 (.inr (by omega)) hN)⟩

theorem nxOk_of {A : ASt} {n : Int} (h : n = 0 ∨ A.isV n = true) : A.nxOk n := by
  rcases h with h | h
  · exact .inl h
  · exact .inr (isV_at h)

theorem duo_version (h : Has o w0 w (.two b rb A A rs)) (hT : TabAt w0) (ho : 0 ∉ o) (hV : A.nV ≤ 1000000000) (val : ByteArray) (bg nx : Int) (hb0 : 0 ≤ bg) (hb1 : bg < 18446744073709551616) :
    ∃ x c : Int, Duo o w0 w b rb A rs false 12 50 #[P0 b, .string val, .int .u64 bg, .int .i64 nx] #[P0 rb, .string val, .int .u64 bg, .int .i64 nx] (.tuple #[.int .i64 x, .int .i64 c]) := by
  have hok := two_ok h
  have hTw := two_tab hT ho h
  by_cases hval : val.size ≤ 64
  · cases hbg : wBegins bg
    · exact ⟨0, 50, duo_same h (fun o1 h1 => version_word w b val bg hval hb0 hb1 hbg nx) (fun o2 w1 h2 => rversion_bad h2 val bg nx hb0 hb1 50 (.inr (.inl ⟨hval, hbg, rfl⟩)))⟩
    · by_cases hnx : nx = 0 ∨ A.isV nx = true
      · by_cases hf : A.used + 3 ≤ A.size
        · refine ⟨_, 0, duo_mk (A.addVer A.steps val bg nx) false rs h ⟨rfl, rfl, by show A.nN ≤ _; omega, Nat.le_refl _, by show A.nT ≤ _; omega⟩ (fun e => by cases e) (fun o1 h1 p1 => (version_ok (nxOk_of hnx) h1 hTw (tab_out hT ho p1) hf hval hb0 hb1 hbg hV).mono ?_) (fun o2 w1 h2 => rversion_make h2 hb0 hb1 hval hbg hnx (by unfold ASt.free; omega) hV hok.big A.steps)⟩
          rintro e w' ⟨rfl, st, h'⟩
          exact ⟨rfl, st, fun e => (by cases e), h'⟩
        · refine ⟨0, 31, duo_mk A false rs h (.refl A) (fun e => by cases e) (fun o1 h1 p1 => ?_) (fun o2 w1 h2 => (rversion_bad h2 val bg nx hb0 hb1 31 (.inr (.inr (.inr ⟨hval, hbg, hnx, by unfold ASt.free; omega, rfl⟩)))).mono ?_)⟩
          · have key : Calls Tryd.prog 12 #[P0 b, .string val, .int .u64 bg, .int .i64 nx] w fun e w' => e = .returned (.tuple #[.int .i64 0, .int .i64 31]) ∧ Has o1 w w' (.store b A) := by
              rcases hnx with rfl | hnx
              · exact version_full0 h1 hTw (tab_out hT ho p1) val bg hval hb0 hb1 hbg (by omega)
              · obtain ⟨j, rfl, hj⟩ := isV_at hnx
                exact version_fullN h1 hTw (tab_out hT ho p1) val bg hval hb0 hb1 hbg hj hV (by omega)
            refine key.mono ?_
            rintro e w' ⟨rfl, h'⟩
            exact ⟨rfl, A.steps, fun e => (by cases e), h'⟩
          · rintro e w' ⟨rfl, rfl⟩
            exact ⟨rfl, h2⟩
      · have h0 : nx ≠ 0 := fun e => hnx (.inl e)
        have h1v : A.isV nx = false := by
          cases hx : A.isV nx
          · rfl
          · exact absurd (.inr hx) hnx
        exact ⟨0, 110, duo_same h (fun o1 h1 => version_none h1 val bg hval hb0 hb1 hbg nx h0 h1v) (fun o2 w1 h2 => rversion_bad h2 val bg nx hb0 hb1 110 (.inr (.inr (.inl ⟨hval, hbg, h0, h1v, rfl⟩))))⟩
  · exact ⟨0, 111, duo_same h (fun o1 h1 => version_long w b val bg nx (by omega)) (fun o2 w1 h2 => rversion_bad h2 val bg nx hb0 hb1 111 (.inl ⟨by omega, rfl⟩))⟩

theorem goneAll_at (A : ASt) (st : Int) (l : List Nat) : (A.at st).goneAll l = (A.goneAll l).at st := by
  unfold ASt.goneAll
  induction l generalizing A with
  | nil => rfl
  | cons c cs ih => exact ih (A.goneV (c - 1))
theorem at_set_at (A : ASt) (st : Int) (l : Loc) (q : Int) : (A.at st).set l q = (A.set l q).at st := by cases l <;> rfl

theorem chain_live (hok : AOk A) (f : Nat) (n : Int) (hn : n ≤ A.nV) : (∀ v ∈ chainF A f n, 1 ≤ v ∧ (v : Int) ≤ n ∧ A.ver (v - 1) = true) ∧ (chainF A f n).Pairwise (· > ·) ∧ ((chainF A f n).length : Nat) ≤ n.toNat := by
  induction f generalizing n with
  | zero => exact ⟨fun v hv => by simp [chainF] at hv, List.Pairwise.nil, Nat.zero_le _⟩
  | succ f ih =>
    by_cases hc : 1 ≤ n ∧ A.ver (n - 1).toNat = true
    · obtain ⟨i, rfl⟩ : ∃ i : Nat, n = (i : Int) + 1 := ⟨(n - 1).toNat, by omega⟩
      rw [show ((i : Int) + 1 - 1).toNat = i by omega] at hc
      rw [chainF_go hc.2]
      have hle := hok.nextLe i _ ((some_ofV hc.2).2.2)
      obtain ⟨h1, h2, h3⟩ := ih (A.V i).next (by omega)
      refine ⟨fun v hv => ?_, List.pairwise_cons.2 ⟨fun v hv => ?_, h2⟩, ?_⟩
      · rcases List.mem_cons.1 hv with rfl | hv
        · exact ⟨by omega, by omega, by rw [show i + 1 - 1 = i by omega]; exact hc.2⟩
        · obtain ⟨a, b', c⟩ := h1 v hv
          exact ⟨a, by omega, c⟩
      · have := (h1 v hv).2.1; omega
      · rw [List.length_cons]; omega
    · rw [chainF_stop hc]
      exact ⟨fun v hv => by simp at hv, List.Pairwise.nil, Nat.zero_le _⟩

theorem duo_cut (h : Has o w0 w (.two b rb A A rs)) (hV : A.nV ≤ 1000000000) (n : Int) :
    ∃ x c : Int, Duo o w0 w b rb A rs false 19 53 #[P0 b, .int .i64 n] #[P0 rb, .int .i64 n] (.tuple #[.int .i64 x, .int .i64 c]) := by
  by_cases hn : A.isV n = true
  · obtain ⟨i, rfl, hi⟩ := isV_at hn
    have hok := two_ok h
    have hv := (some_ofV hi).2.2
    have hle := hok.nextLe i _ hv
    have hlt := ver_lt hi
    obtain ⟨l1, l2, l3⟩ := chain_live hok (A.V i).next.toNat (A.V i).next (by omega)
    have hg := goneAll_same (A.set (.next i) 0) (chainF A (A.V i).next.toNat (A.V i).next)
    refine ⟨_, 0, duo_mk ((A.set (.next i) 0).goneAll (chainF A (A.V i).next.toNat (A.V i).next)) false rs h ⟨by rw [hg.1, A.size_set], by rw [hg.2.1, A.ab_set], by rw [goneAll_nN, A.nN_set]; omega, by rw [goneAll_nV, A.nV_set]; omega, by rw [hg.2.2, A.nT_set]; omega⟩ (fun e => by cases e) (fun o1 h1 _ => (cut_at h1 i _ hv hV).mono ?_) (fun o2 w1 h2 => rcut_at h2 hok i _ hv hV (fun v hm => ⟨(l1 v hm).1, by rw [A.ver_set]; exact (l1 v hm).2.2⟩) l2 (by omega))⟩
    rintro e w' ⟨rfl, st, h'⟩
    rw [at_set_at, goneAll_at] at h'
    exact ⟨rfl, st, fun e => (by cases e), h'⟩
  · have hn' : A.isV n = false := by simpa using hn
    exact ⟨0, 110, duo_same h (fun o1 h1 => cut_none h1 n hn') (fun o2 w1 h2 => rcut_no h2 n hn')⟩

theorem duo_drop (h : Has o w0 w (.two b rb A A rs)) (hV : A.nV ≤ 1000000000) (n : Int) :
    ∃ c : Int, Duo o w0 w b rb A rs false 20 70 #[P0 b, .int .i64 n] #[P0 rb, .int .i64 n] (.int .i64 c) := by
  by_cases hn : A.isN n = true
  · obtain ⟨i, rfl, hi⟩ := isN_at hn
    have hok := two_ok h
    have hv := (some_of hi).1
    by_cases hh : A.isV (A.N i).1 = true
    · obtain ⟨j, hj, hj2⟩ := isV_at hh
      rw [hj] at hv
      have hx := (some_ofV hj2).2.2
      refine ⟨0, duo_mk ((A.set (.head i) (A.V j).next).goneV j) false rs h ⟨by show (A.set _ _).size = _; rw [A.size_set], by show (A.set _ _).ab = _; rw [A.ab_set], by show (A.set _ _).nN ≤ _; rw [A.nN_set]; omega, by show (A.set _ _).nV ≤ _; rw [A.nV_set]; omega, by show (A.set _ _).nT ≤ _; rw [A.nT_set]; omega⟩ (fun e => by cases e) (fun o1 h1 _ => (drop_at h1 i j _ hv hx hV).mono ?_) (fun o2 w1 h2 => rdrop_at h2 hok i j _ hv hx)⟩
      rintro e w' ⟨rfl, st, h'⟩
      rw [at_set_at] at h'
      exact ⟨rfl, st, fun e => (by cases e), h'⟩
    · have hh' : A.isV (A.N i).1 = false := by simpa using hh
      refine ⟨110, duo_mk A false rs h (.refl A) (fun e => by cases e) (fun o1 h1 _ => (drop_empty h1 i _ hv hh' hV).mono ?_) (fun o2 w1 h2 => (rdrop_none h2 i _ hv hh').mono ?_)⟩
      · rintro e w' ⟨rfl, h'⟩
        exact ⟨rfl, wrap64 (A.steps + 1), fun e => (by cases e), h'⟩
      · rintro e w' ⟨rfl, rfl⟩
        exact ⟨rfl, h2⟩
  · have hn' : A.isN n = false := by simpa using hn
    exact ⟨110, duo_same h (fun o1 h1 => drop_none h1 n hn') (fun o2 w1 h2 => rdrop_no h2 n hn')⟩
end Go.Proofs.YtlaffmdflleeeaaDoor
