/- Who sees a version at which time is what the document says, for any words. Condition: none: for every input of the parameters' types. -/
import Derived.Test.YtdonoibopbhfoaaPWordSeesx5
import Derived.Laws.Bits64b
namespace Go.Proofs.Ytdonoibopbhfoaa.Pure
open Go.RowKit Go.Proofs.Ytdonoibopbhfoaa.PWordSees Go.Proofs.YtdonoibopbhfoaaW.PrintWords Go.Proofs.YtdonoibopbhfoaaW.PrintLast

theorem u64_of {a : Int} (h : (Lit.int .u64 a).wf = true) : 0 ≤ a ∧ a < 18446744073709551616 := by
  simp only [Lit.wf, Bool.and_eq_true, decide_eq_true_eq] at h
  have e1 : IntKind.u64.min = 0 := by decide
  have e2 : IntKind.u64.max = 18446744073709551615 := by decide
  omega

theorem i64_of {a : Int} (h : (Lit.int .i64 a).wf = true) : -9223372036854775808 ≤ a ∧ a < 9223372036854775808 := by
  simp only [Lit.wf, Bool.and_eq_true, decide_eq_true_eq] at h
  have e1 : IntKind.i64.min = -9223372036854775808 := by decide
  have e2 : IntKind.i64.max = 9223372036854775807 := by decide
  omega

theorem wrap_id {a : Int} (h0 : -9223372036854775808 ≤ a) (h1 : a < 9223372036854775808) : wrap64 a = a := by
  unfold wrap64; omega

theorem uwrap_id {a : Int} (h0 : 0 ≤ a) (h1 : a < 18446744073709551616) : IntKind.u64.wrap a = a := by
  rw [IntKind.wrap_u64]; omega

theorem or_add (s t : Int) (hs : 0 ≤ s) (hs2 : s ≤ 3) (ht : 0 ≤ t) (ht2 : t < 4611686018427387904) :
    Go.bits .or .u64 (IntKind.u64.wrap ((IntKind.u64.wrap s) * 4611686018427387904)) (IntKind.u64.wrap t) = s * 4611686018427387904 + t := by
  rw [uwrap_id hs (by omega), uwrap_id (a := s * _) (by omega) (by omega), uwrap_id ht (by omega)]
  have h := bits_or_u64_nat (s.toNat * 4611686018427387904) t.toNat (by omega) (by omega)
  have e1 : ((s.toNat * 4611686018427387904 : Nat) : Int) = s * 4611686018427387904 := by omega
  have e2 : ((t.toNat : Nat) : Int) = t := by omega
  rw [e1, e2] at h
  rw [h]
  have h3 := Nat.shiftLeft_add_eq_or_of_lt (b := t.toNat) (i := 62) (by omega) s.toNat
  rw [Nat.shiftLeft_eq] at h3
  have h4 : (2 : Nat) ^ 62 = 4611686018427387904 := by decide
  rw [h4] at h3
  refine (congrArg Int.ofNat h3.symm).trans ?_
  show ((s.toNat * 4611686018427387904 + t.toNat : Nat) : Int) = _
  rw [Int.natCast_add, e1, e2]

theorem and62 (n : Nat) : n &&& 4611686018427387903 = n % 4611686018427387904 :=
  Nat.and_two_pow_sub_one_eq_mod n 62

theorem and_mod (w : Int) (h0 : 0 ≤ w) (h1 : w < 18446744073709551616) : Go.bits .and .u64 w 4611686018427387903 = w % 4611686018427387904 := by
  have h := bits_and_u64_nat w.toNat 4611686018427387903 (by omega) (by omega)
  rw [and62] at h
  have e2 : ((w.toNat : Nat) : Int) = w := by omega
  rw [e2] at h
  have e3 : ((w.toNat % 4611686018427387904 : Nat) : Int) = w % 4611686018427387904 := by omega
  exact h.trans e3

def okState (s t : Int) : Prop := 0 ≤ t ∧ t < 1099511627776 ∧ 0 ≤ s ∧ s ≤ 3 ∧ (s = 0 ∨ s = 3 → t = 0)
instance (s t : Int) : Decidable (okState s t) := by unfold okState; infer_instance
def stateS (s t : Int) : Int × Int := if okState s t then (s * 4611686018427387904 + t, 0) else (0, 50)
def unstateS (w : Int) : Int × Int × Bool :=
  if okState (w / 4611686018427387904) (w % 4611686018427387904) then (w / 4611686018427387904, w % 4611686018427387904, true) else (0, 0, false)
def splitS (w : Int) : Int × Int × Int :=
  if w < 1099511627776 then (1, w, 0) else if w = 1099511627776 then (2, 1099511627776, 0)
  else if 9223372036854775808 < w ∧ w < 9223372036855824384 then (3, 0, w - 9223372036854775808) else (0, 0, 0)
def isTimeS (t : Int) : Bool := decide (0 ≤ t ∧ t < 1099511627776)
def cameS (w st a : Int) : Int :=
  if (splitS w).1 = 3 then
    if (unstateS st).1 = 0 ∨ (unstateS st).1 = 3 then 2
    else if (unstateS st).1 = 1 ∧ (unstateS st).2.1 ≤ a then 3
    else if (unstateS st).2.1 > a then 2 else 1
  else if (splitS w).2.1 > a then 2 else 1
def badG (me a kb nb ke ne : Int) (ob oe : Bool) : Prop :=
  me < 0 ∨ me ≥ 1048576 ∨ a < 0 ∨ a ≥ 1099511627776 ∨ kb = 0 ∨ kb = 2 ∨ ke = 0
  ∨ (kb = 3 ∧ nb ≠ me ∧ ob = false) ∨ (ke = 3 ∧ ne ≠ me ∧ oe = false)
instance (me a kb nb ke ne : Int) (ob oe : Bool) : Decidable (badG me a kb nb ke ne ob oe) := by unfold badG; infer_instance
def endG (me ke ne ce : Int) : Int × Int :=
  if ke = 3 ∧ ne = me then (2, 0) else if ce = 1 then (2, 0) else if ce = 2 then (1, 0) else (3, 0)
def seesG (me a kb nb ke ne cb ce : Int) (ob oe : Bool) : Int × Int :=
  if badG me a kb nb ke ne ob oe then (0, 50)
  else if kb = 3 ∧ nb = me then endG me ke ne ce
  else if cb = 1 then endG me ke ne ce else (cb, 0)
def seesS (me a b e sb se : Int) : Int × Int :=
  seesG me a (splitS b).1 (splitS b).2.2 (splitS e).1 (splitS e).2.2 (cameS b sb a) (cameS e se a) (unstateS sb).2.2 (unstateS se).2.2

theorem split_eq (w : Int) (h0 : 0 ≤ w) (h1 : w < 18446744073709551616) : word_split.f w = some (splitS w) := by
  unfold word_split.f splitS
  by_cases a : w < 1099511627776
  · rw [if_pos a, if_pos a, wrap_id (by omega) (by omega)]
  rw [if_neg a, if_neg a]
  by_cases b : w = 1099511627776
  · rw [if_pos b, if_pos b]
  rw [if_neg b, if_neg b]
  by_cases c : w > 9223372036854775808
  · rw [if_pos c]
    by_cases d : w < 9223372036855824384
    · rw [if_pos d, if_pos ⟨c, d⟩, uwrap_id (by omega) (by omega), wrap_id (by omega) (by omega)]
    · rw [if_neg d, if_neg (by omega)]
  · rw [if_neg c, if_neg (by omega)]

theorem isTime_eq (t : Int) : word_isTime.f t = some (isTimeS t) := by
  unfold word_isTime.f isTimeS
  by_cases a : t ≥ 0
  · rw [if_pos a]; simp; omega
  · rw [if_neg a]; simp; omega

theorem state_eq (k : Nat) (s t : Int) : word_State.f (k + 1) s t = some (stateS s t) := by
  unfold word_State.f stateS
  simp only [word_State.j0, isTime_eq, Option.bind_some]
  by_cases h0 : s = 0
  · subst h0
    simp only [if_true, beq_self_eq_true]
    by_cases ht : t = 0
    · subst ht; decide
    · have hn : ¬ okState 0 t := by unfold okState; omega
      rw [if_neg ht, if_neg hn]
  by_cases h3 : s = 3
  · subst h3
    simp only [beq_self_eq_true, if_true]
    by_cases ht : t = 0
    · subst ht; decide
    · have hn : ¬ okState 3 t := by unfold okState; omega
      rw [if_neg ht, if_neg hn]; rfl
  rw [if_neg h0]
  have e : (s == 3) = false := by simpa using h3
  rw [e]
  simp only [Bool.false_eq_true, if_false]
  by_cases hk : okState s t
  · have hk' := hk
    unfold okState at hk'
    have et : isTimeS t = true := by unfold isTimeS; simp; omega
    rw [if_pos hk, et, or_add s t (by omega) (by omega) (by omega) (by omega)]
    by_cases h1 : s = 1
    · rw [if_pos h1]; rfl
    · rw [if_neg h1, if_pos (by omega)]; rfl
  · rw [if_neg hk]
    by_cases h1 : s = 1
    · rw [if_pos h1]
      have et : isTimeS t = false := by unfold isTimeS; unfold okState at hk; simp; omega
      rw [et]; rfl
    rw [if_neg h1]
    by_cases h2 : s = 2
    · rw [if_pos h2]
      have et : isTimeS t = false := by unfold isTimeS; unfold okState at hk; simp; omega
      rw [et]; rfl
    rw [if_neg h2]

theorem stateS_code (s t : Int) : ((stateS s t).2 = 0) = okState s t := by
  unfold stateS
  by_cases h : okState s t
  · rw [if_pos h]; simp [h]
  · rw [if_neg h]; simp [h]

theorem unstate_eq (k : Nat) (w : Int) (h0 : 0 ≤ w) (h1 : w < 18446744073709551616) : word_Unstate.f (k + 1) w = some (unstateS w) := by
  unfold word_Unstate.f unstateS
  rw [state_eq, and_mod w h0 h1, wrap_id (a := w / _) (by omega) (by omega), wrap_id (a := w % _) (by omega) (by omega)]
  simp only [Option.bind_some, stateS_code]
  split <;> rfl

theorem splitS_u (w : Int) : 0 ≤ (splitS w).1 ∧ (splitS w).1 ≤ 3 := by
  unfold splitS
  split
  · simp
  split
  · simp
  split <;> simp

theorem came_eq (k : Nat) (w st a : Int) (h0 : 0 ≤ w) (h1 : w < 18446744073709551616) (g0 : 0 ≤ st) (g1 : st < 18446744073709551616) :
    word_came.f (k + 1) w st a = some (cameS w st a) := by
  unfold word_came.f cameS
  rw [split_eq w h0 h1]
  simp only [Option.bind_some, unstate_eq k st g0 g1, word_came.j0]
  by_cases h3 : (splitS w).1 = 3
  · rw [if_pos h3, if_pos h3]
    by_cases a0 : (unstateS st).1 = 0
    · rw [if_pos a0, if_pos (Or.inl a0), a0]; rfl
    rw [if_neg a0]
    by_cases a3 : (unstateS st).1 = 3
    · rw [if_pos (Or.inr a3), a3]; rfl
    have e : ((unstateS st).1 == 3) = false := by simpa using a3
    have hn : ¬ ((unstateS st).1 = 0 ∨ (unstateS st).1 = 3) := by omega
    rw [e, if_neg hn]
    simp only [Bool.false_eq_true, if_false]
    by_cases a1 : (unstateS st).1 = 1
    · rw [if_pos a1]
      by_cases le : (unstateS st).2.1 ≤ a
      · rw [if_pos le, if_pos ⟨a1, le⟩]
      · have hm : ¬ ((unstateS st).1 = 1 ∧ (unstateS st).2.1 ≤ a) := by omega
        rw [if_neg le, if_neg hm]; split <;> rfl
    · have hm : ¬ ((unstateS st).1 = 1 ∧ (unstateS st).2.1 ≤ a) := by omega
      rw [if_neg a1, if_neg hm]; split <;> rfl
  · rw [if_neg h3, if_neg h3]; split <;> rfl

theorem sees_eq (k : Nat) (me a b e sb se : Int) (b0 : 0 ≤ b) (b1 : b < 18446744073709551616) (e0 : 0 ≤ e) (e1 : e < 18446744073709551616)
    (c0 : 0 ≤ sb) (c1 : sb < 18446744073709551616) (d0 : 0 ≤ se) (d1 : se < 18446744073709551616) :
    word_Sees.f (k + 6) me a b e sb se = some (seesS me a b e sb se) := by
  have hcb := fun k => came_eq k b sb a b0 b1 c0 c1
  have hce := fun k => came_eq k e se a e0 e1 d0 d1
  have hub := fun k => unstate_eq k sb c0 c1
  have hue := fun k => unstate_eq k se d0 d1
  have j4 : ∀ x : Bool, word_Sees.j4 (k + 2) a e se x = some (if x = true then (2, 0) else if cameS e se a = 1 then (2, 0) else if cameS e se a = 2 then (1, 0) else (3, 0)) := by
    intro x
    simp only [word_Sees.j4, hce, Option.bind_some]
    repeat' split
    all_goals rfl
  unfold word_Sees.f seesS
  rw [split_eq b b0 b1, split_eq e e0 e1, isTime_eq]
  simp only [Option.bind_some, word_Sees.j0, word_Sees.j1, word_Sees.j2, word_Sees.j3, j4, hub, hue, hcb, isTimeS]
  generalize (splitS b).1 = kb
  generalize (splitS b).2.2 = nb
  generalize (splitS e).1 = ke
  generalize (splitS e).2.2 = ne
  generalize (unstateS sb).2.2 = ob
  generalize (unstateS se).2.2 = oe
  generalize cameS b sb a = cb
  generalize cameS e se a = ce
  clear hcb hce hub hue j4
  unfold seesG endG
  by_cases m0 : me < 0
  · simp [m0, badG]
  by_cases m1 : me ≥ 1048576
  · simp [m0, m1, badG]
  rw [if_neg m0, if_neg m1]
  by_cases ta : ¬ (0 ≤ a ∧ a < 1099511627776)
  · rw [show decide (0 ≤ a ∧ a < 1099511627776) = false from by simpa using ta]
    have hb : badG me a kb nb ke ne ob oe := by unfold badG; omega
    simp only [Bool.false_eq_true, if_false, if_true]
    rw [if_pos hb]
  have ta : 0 ≤ a ∧ a < 1099511627776 := by omega
  rw [show decide (0 ≤ a ∧ a < 1099511627776) = true from by simpa using ta]
  simp only [if_true]
  by_cases kb0 : kb = 0
  · have hb : badG me a kb nb ke ne ob oe := by unfold badG; omega
    rw [if_pos kb0, if_pos hb]
  rw [if_neg kb0]
  by_cases kb2 : kb = 2
  · have hb : badG me a kb nb ke ne ob oe := by unfold badG; omega
    rw [if_pos kb2, if_pos hb]
  rw [if_neg kb2]
  by_cases ke0 : ke = 0
  · have hb : badG me a kb nb ke ne ob oe := by unfold badG; omega
    subst ke0; simp [hb]
  have ke0' : (ke == 0) = false := by simpa using ke0
  rw [ke0']
  simp only [Bool.false_eq_true, if_false]
  have m0' : ¬ (1048576 ≤ me) := m1
  have ta1 : ¬ (a < 0) := by omega
  have ta2 : ¬ (1099511627776 ≤ a) := by omega
  by_cases kb3 : kb = 3
  · subst kb3
    by_cases hb : nb = me
    · subst hb
      by_cases ke3 : ke = 3
      · subst ke3
        by_cases he : ne = nb
        · subst he
          simp [badG, m0, m0', ta1, ta2]
        · cases oe <;> simp [badG, m0, m0', ta1, ta2, he]
      · simp [badG, m0, m0', ta1, ta2, ke3, ke0]
    · by_cases ke3 : ke = 3
      · subst ke3
        by_cases he : ne = me
        · subst he
          cases ob <;> simp [badG, m0, m0', ta1, ta2, hb] <;> split <;> rfl
        · cases ob <;> cases oe <;> simp [badG, m0, m0', ta1, ta2, he, hb] <;> split <;> rfl
      · cases ob <;> simp [badG, m0, m0', ta1, ta2, hb, ke3, ke0] <;> split <;> rfl
  · by_cases ke3 : ke = 3
    · subst ke3
      by_cases he : ne = me
      · subst he
        simp [badG, m0, m0', ta1, ta2, kb3, kb0, kb2]; split <;> rfl
      · cases oe <;> simp [badG, m0, m0', ta1, ta2, kb3, kb0, kb2, he] <;> split <;> rfl
    · simp [badG, m0, m0', ta1, ta2, kb3, kb0, kb2, ke3, ke0]; split <;> rfl

theorem shown_eq (k : Nat) : varvelaw05_shown.f (k + 6) = some true := by
  unfold varvelaw05_shown.f
  rw [sees_eq k 1 7 5 1099511627776 0 0 (by omega) (by omega) (by omega) (by omega) (by omega) (by omega) (by omega) (by omega)]
  rw [show seesS 1 7 5 1099511627776 0 0 = (1, 0) from by decide]
  rfl

theorem split_time {t : Int} (h1 : t < 1099511627776) : splitS t = (1, t, 0) := by unfold splitS; rw [if_pos h1]
theorem split_never : splitS 1099511627776 = (2, 1099511627776, 0) := by decide
theorem split_owner {n : Int} (h0 : 1 ≤ n) (h1 : n < 1048576) : splitS (9223372036854775808 + n) = (3, 0, n) := by
  unfold splitS
  rw [if_neg (by omega), if_neg (by omega), if_pos (by omega)]
  congr 2; omega

def timeS (t : Int) : Int × Int := if 0 ≤ t ∧ t < 1099511627776 then (t, 0) else (0, 50)
def ownerS (n : Int) : Int × Int := if 1 ≤ n ∧ n < 1048576 then (9223372036854775808 + n, 0) else (0, 50)

theorem unstate_of {s t : Int} (h : okState s t) : unstateS (s * 4611686018427387904 + t) = (s, t, true) := by
  have h' := h
  unfold okState at h'
  unfold unstateS
  have e1 : (s * 4611686018427387904 + t) / 4611686018427387904 = s := by omega
  have e2 : (s * 4611686018427387904 + t) % 4611686018427387904 = t := by omega
  rw [e1, e2, if_pos h]
theorem unstate_zero : unstateS 0 = (0, 0, true) := by decide
def cameG (k tt s e a : Int) : Int :=
  if k = 3 then
    if s = 0 ∨ s = 3 then 2
    else if s = 1 ∧ e ≤ a then 3
    else if e > a then 2 else 1
  else if tt > a then 2 else 1
theorem cameS_def (w st a : Int) : cameS w st a = cameG (splitS w).1 (splitS w).2.1 (unstateS st).1 (unstateS st).2.1 a := rfl

theorem rsplit_eq (w : Int) (h0 : 0 ≤ w) (h1 : w < 18446744073709551616) : varveref05_split.f w = some (splitS w) := by
  unfold varveref05_split.f splitS
  by_cases a : w < 1099511627776
  · rw [if_pos a, if_pos a, wrap_id (by omega) (by omega)]
  rw [if_neg a, if_neg a]
  by_cases b : w = 1099511627776
  · rw [if_pos b, if_pos b]
  rw [if_neg b, if_neg b]
  by_cases c : w > 9223372036854775808
  · rw [if_pos c, uwrap_id (by omega) (by omega)]
    by_cases d : w < 9223372036855824384
    · rw [if_pos (by omega), if_pos ⟨c, d⟩, wrap_id (by omega) (by omega)]
    · rw [if_neg (by omega), if_neg (by omega)]
  · rw [if_neg c, if_neg (by omega)]

theorem rstate_eq (s t : Int) : varveref05_State.f s t = some (stateS s t) := by
  unfold varveref05_State.f stateS
  by_cases h : okState s t
  · have h' := h
    unfold okState at h'
    rw [if_pos h, if_neg (by omega), if_neg (by omega), if_neg (by omega), if_neg (by omega)]
    rw [uwrap_id (a := s) (by omega) (by omega), uwrap_id (a := s * _) (by omega) (by omega), uwrap_id (a := t) (by omega) (by omega), uwrap_id (by omega) (by omega)]
    by_cases s0 : s = 0
    · rw [if_pos s0, if_pos (by omega)]
    rw [if_neg s0]
    by_cases s3 : s = 3
    · rw [if_pos s3, if_pos (by omega)]
    rw [if_neg s3]
  · rw [if_neg h]
    by_cases a : s < 0
    · rw [if_pos a]
    rw [if_neg a]
    by_cases b : s > 3
    · rw [if_pos b]
    rw [if_neg b]
    by_cases c : t < 0
    · rw [if_pos c]
    rw [if_neg c]
    by_cases d : t ≥ 1099511627776
    · rw [if_pos d]
    rw [if_neg d]
    by_cases s0 : s = 0
    · rw [if_pos s0, if_neg (by intro e; apply h; unfold okState; omega)]
    rw [if_neg s0]
    by_cases s3 : s = 3
    · rw [if_pos s3, if_neg (by intro e; apply h; unfold okState; omega)]
    exfalso; apply h; unfold okState; omega

theorem runstate_eq (w : Int) (h0 : 0 ≤ w) (h1 : w < 18446744073709551616) : varveref05_Unstate.f w = some (unstateS w) := by
  unfold varveref05_Unstate.f unstateS
  rw [rstate_eq, Int.tmod_eq_emod_of_nonneg h0, wrap_id (a := w / _) (by omega) (by omega), wrap_id (a := w % _) (by omega) (by omega)]
  simp only [Option.bind_some, stateS_code]
  split <;> rfl

theorem rpast_eq (k : Nat) (st a : Int) (g0 : 0 ≤ st) (g1 : st < 18446744073709551616) :
    varveref05_past.f (k + 1) st a = some (cameG 3 0 (unstateS st).1 (unstateS st).2.1 a) := by
  unfold varveref05_past.f cameG
  rw [runstate_eq st g0 g1]
  simp only [Option.bind_some, varveref05_past.j0, if_true]
  generalize (unstateS st).1 = s
  generalize (unstateS st).2.1 = t
  by_cases s0 : s = 0
  · simp [s0]
  by_cases s3 : s = 3
  · simp [s3]
  have n : ¬ (s = 0 ∨ s = 3) := by omega
  rw [if_neg s0, if_neg s3, if_neg n]
  by_cases g : t > a
  · have g' : ¬ (s = 1 ∧ t ≤ a) := by omega
    simp [g, g']
  · have g' : t ≤ a := by omega
    by_cases s1 : s = 1
    · simp [g, g', s1]
    · simp [g, s1]

theorem rcame_eq (k : Nat) (w st a : Int) (h0 : 0 ≤ w) (h1 : w < 18446744073709551616) (g0 : 0 ≤ st) (g1 : st < 18446744073709551616) (ha : a < 1099511627776) :
    varveref05_came.f (k + 1) w st a = some (cameS w st a) := by
  unfold varveref05_came.f
  rw [rsplit_eq w h0 h1, cameS_def]
  simp only [Option.bind_some, rpast_eq k st a g0 g1]
  unfold cameG
  by_cases h3 : (splitS w).1 = 3
  · rw [if_pos h3, if_pos h3]; simp
  · rw [if_neg h3, if_neg h3]
    by_cases h2 : (splitS w).1 = 2
    · rw [if_pos h2]
      have : (splitS w).2.1 = 1099511627776 := by
        revert h2; unfold splitS; repeat' split
        all_goals simp
      rw [this, if_pos (by omega)]
    · rw [if_neg h2]; split <;> rfl

theorem rsees_eq (k : Nat) (me a b e sb se : Int) (b0 : 0 ≤ b) (b1 : b < 18446744073709551616) (e0 : 0 ≤ e) (e1 : e < 18446744073709551616)
    (c0 : 0 ≤ sb) (c1 : sb < 18446744073709551616) (d0 : 0 ≤ se) (d1 : se < 18446744073709551616) :
    varveref05_Sees.f (k + 7) me a b e sb se = some (seesS me a b e sb se) := by
  by_cases hT : 0 ≤ a ∧ a < 1099511627776
  · have hcb := fun k => rcame_eq k b sb a b0 b1 c0 c1 hT.2
    have hce := fun k => rcame_eq k e se a e0 e1 d0 d1 hT.2
    have hsb := splitS_u b
    have hkb : (splitS b).1 = 0 ∨ (splitS b).1 = 1 ∨ (splitS b).1 = 2 ∨ (splitS b).1 = 3 := by omega
    unfold varveref05_Sees.f seesS
    rw [rsplit_eq b b0 b1, rsplit_eq e e0 e1]
    have ta1 : ¬ (a < 0) := by omega
    have ta2 : ¬ (a ≥ 1099511627776) := by omega
    have ta2' : ¬ (1099511627776 ≤ a) := ta2
    simp only [Option.bind_some, varveref05_Sees.j0, runstate_eq sb c0 c1, runstate_eq se d0 d1, varveref05_Sees.j1, varveref05_Sees.j2, varveref05_Sees.j3, varveref05_Sees.j4, hcb, hce, ta1, ta2, if_false]
    generalize (splitS b).1 = kb at *
    generalize (splitS b).2.2 = nb
    generalize (splitS e).1 = ke
    generalize (splitS e).2.2 = ne
    generalize (unstateS sb).2.2 = ob
    generalize (unstateS se).2.2 = oe
    generalize cameS b sb a = cb
    generalize cameS e se a = ce
    clear hcb hce hsb
    unfold seesG endG
    by_cases m0 : me < 0
    · simp [m0, badG]
    by_cases m1 : me ≥ 1048576
    · simp [m0, m1, badG]
    have m0' : ¬ (1048576 ≤ me) := m1
    rcases hkb with r | r | r | r
    · subst r
      simp [m0, badG, m0']
    · subst r
      by_cases ke0 : ke = 0
      · subst ke0; simp [badG, m0, m0']
      by_cases ke3 : ke = 3
      · subst ke3
        by_cases he : ne = me
        · subst he; simp [badG, m0, m0', ta1, ta2']; split <;> rfl
        · cases oe <;> simp [badG, m0, m0', ta1, ta2', he] <;> (repeat' split) <;> simp_all
      · simp [badG, m0, m0', ta1, ta2', ke3, ke0]; (repeat' split) <;> simp_all
    · subst r
      simp [m0, badG, m0']
    · subst r
      by_cases ke0 : ke = 0
      · subst ke0; simp [badG, m0, m0']
      by_cases hb : nb = me
      · subst hb
        by_cases ke3 : ke = 3
        · subst ke3
          by_cases he : ne = nb
          · subst he; simp [badG, m0, m0', ta1, ta2']
          · cases oe <;> simp [badG, m0, m0', ta1, ta2', he] <;> (repeat' split) <;> simp_all
        · simp [badG, m0, m0', ta1, ta2', ke3, ke0]; (repeat' split) <;> simp_all
      · by_cases ke3 : ke = 3
        · subst ke3
          by_cases he : ne = me
          · subst he; cases ob <;> simp [badG, m0, m0', ta1, ta2', hb] <;> (repeat' split) <;> simp_all
          · cases ob <;> cases oe <;> simp [badG, m0, m0', ta1, ta2', he, hb] <;> (repeat' split) <;> simp_all
        · cases ob <;> simp [badG, m0, m0', ta1, ta2', hb, ke3, ke0] <;> (repeat' split) <;> simp_all
  · have hb : badG me a (splitS b).1 (splitS b).2.2 (splitS e).1 (splitS e).2.2 (unstateS sb).2.2 (unstateS se).2.2 := by unfold badG; omega
    unfold varveref05_Sees.f seesS seesG
    rw [rsplit_eq b b0 b1, rsplit_eq e e0 e1, if_pos hb]
    simp only [Option.bind_some, varveref05_Sees.j0, if_true]
    by_cases m0 : me < 0
    · rw [if_pos m0]
    by_cases m1 : me ≥ 1048576
    · rw [if_neg m0, if_pos m1]
    by_cases a0 : a < 0
    · rw [if_neg m0, if_neg m1, if_pos a0]
    rw [if_neg m0, if_neg m1, if_neg a0, if_pos (by omega)]

theorem WordSees : varvelaw05_WordSees.Pure := by
  intro me a b e sb se hme ha hb he hsb hse
  have hb := u64_of hb
  have he := u64_of he
  have hsb := u64_of hsb
  have hse := u64_of hse
  refine ⟨7, ?_⟩
  unfold varvelaw05_WordSees.f
  rw [shown_eq 1, sees_eq 1 _ _ _ _ _ _ hb.1 hb.2 he.1 he.2 hsb.1 hsb.2 hse.1 hse.2, rsees_eq 0 _ _ _ _ _ _ hb.1 hb.2 he.1 he.2 hsb.1 hsb.2 hse.1 hse.2]
  simp

end Go.Proofs.Ytdonoibopbhfoaa.Pure
