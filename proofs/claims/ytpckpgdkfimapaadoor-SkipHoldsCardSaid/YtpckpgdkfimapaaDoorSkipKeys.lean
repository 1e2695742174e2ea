/- The walk of Keys; a lookup over a list that stands, stepped until it is done; the statements' own find and sorted; asks that a slice owns. -/
import Derived.Test.YtpckpgdkfimapaaDoorSkipInv
import Derived.Test.YtpckpgdkfimapaaDoorSkipPut
namespace Go.Proofs.YtpckpgdkfimapaaDoor
open Go Go.RowKit
set_option linter.unusedVariables false

variable {o : List Nat} {w0 w : World} {b : Nat} {x : SkIx} {T : ASk} {C : Nat → List Nat} {R : Part}

/-- A row of texts. -/
noncomputable def Part.strs (v : Value) (l : List ByteArray) : Part := .row 9 1 v l.length (l.map Value.string)
/-- A list at another count of steps. -/
def ASk.at9 (T : ASk) (st : Int) : ASk := { T with steps := st }

theorem kt_load {st : Int} (h : Has o w0 w ((SkP b x (T.at9 st)).sep R)) (hr : SkRep x.S x.C (T.at9 st)) (l : SLoc) (v : Int) (hl : T.at_ l = some v) :
    Calls Tryd.prog 27 #[.pointer (some ⟨T.ab, 0, none⟩), .int .i64 (x.C l.1 l.2 : Nat)] w fun e w' => e = .returned (.tuple #[.int .u64 v, .int .i64 0]) ∧ ∃ S st', SkRep S x.C (T.at9 st') ∧ Has o w0 w' ((SkP b { x with S := S } (T.at9 st')).sep R) := by
  obtain ⟨o1, h1, _, _, b1⟩ := h.left
  refine (sk_load h1 hr l v hl).mono ?_
  rintro e w' ⟨rfl, h'⟩
  exact ⟨rfl, x.S.step, wrap64 (st + 1), hr.step, b1 _ _ h'⟩
theorem kt_fields {st : Int} (h : Has o w0 w ((SkP b x (T.at9 st)).sep R)) : w.cell? ⟨b, 0, none⟩ = some (.pointer (some ⟨T.ab, 0, none⟩)) ∧ w.cell? ⟨b, 1, none⟩ = some x.nv := by
  obtain ⟨o1, h1, _⟩ := h.left
  exact ⟨(SkP.fields h1).1, (SkP.fields h1).2.1⟩
theorem kt_node {st : Int} (h : Has o w0 w ((SkP b x (T.at9 st)).sep R)) {i : Nat} (hi : i < T.nN) : ∃ g cap, x.nv = .slice (some ⟨g, 0, none⟩) T.nN cap ∧ w.cell? ⟨g, i, none⟩ = some (.pointer (some ⟨x.nb i, 0, none⟩)) ∧ T.nN ≤ maxLen ∧ w.cell? ⟨x.nb i, 0, none⟩ = some (.string (T.E i).key) := by
  obtain ⟨o1, h1, _⟩ := h.left
  obtain ⟨g, cap, e, hc⟩ := SkP.ptr h1 (T := T.at9 st) hi
  exact ⟨g, cap, e, hc, (SkP.slice h1).2, SkP.node h1 (T := T.at9 st) hi 0 (by omega)⟩
theorem kt_tower {st : Int} (h : Has o w0 w ((SkP b x (T.at9 st)).sep R)) {i : Nat} {v : Int} (hv : T.at_ (i, 0) = some v) : w.cell? ⟨x.nb i, 19, none⟩ = some (.int .i64 (x.C i 0 : Nat)) := by
  obtain ⟨o1, h1, _⟩ := h.left
  exact (SkP.tower h1 (T := T.at9 st) (j := 0) hv (by omega)).2
theorem kt_append {st : Int} {w5 : World} {v v' : Value} {l : List ByteArray} {k : ByteArray} (ob : Obj) (h : Has o w0 w ((SkP b x (T.at9 st)).sep (.strs v l))) (happ : Appended (w.alloc ob) w5 9 1 v v' (l.length + 1) (l.map Value.string ++ [.string k])) :
    Has o w0 w5 ((SkP b x (T.at9 st)).sep (.strs v' (l ++ [k]))) := by
  obtain ⟨o1, h1, _, _, b1⟩ := h.right
  refine b1 w5 (.strs v' (l ++ [k])) ?_
  have := h1.appendRow (m := 1) (news := [.string k]) ob happ
  unfold Part.strs
  rw [List.length_append, List.map_append]
  exact this
theorem strs_row {v : Value} {l : List ByteArray} (h : Has o w0 w (R.sep (.strs v l))) : w.ownsRow 0 9 1 v l.length (l.map Value.string) := by
  obtain ⟨o1, h1, _⟩ := h.right
  obtain ⟨fp, ⟨hr, _⟩, _⟩ := h1; exact hr
theorem Has.nilStrs (w : World) : Has [] w w (.strs (.slice none 0 0) []) := ⟨[], ⟨World.ownsRow_nil _ _ _ _, by simp [rowsOf, Value.ownBlock]⟩, by simp, Kept.refl _ _⟩
theorem strs_slice {v : Value} {l : List ByteArray} (h : w.ownsRow 0 9 1 v l.length (l.map Value.string)) : ∃ p c, v = .slice p l.length c := by
  rcases row_val h with ⟨e, h0⟩ | ⟨g, c, e, _⟩
  · exact ⟨none, 0, by rw [h0]; exact e⟩
  · exact ⟨_, c, e⟩
theorem info_str : (Tryd.prog.info? 9).map (fun i => (i.zero, i.size, i.bytes)) = some (some (.string ⟨#[]⟩), 1, 16) := by kernel_rfl

set_option maxHeartbeats 8000000 in
set_option maxRecDepth 100000 in
theorem skeys_walk (hX : Has o w0 w (.skl b T)) (hs : Skp T C) (hN : T.nN ≤ 65536) :
    Calls Tryd.prog 15 #[.pointer (some ⟨b, 0, none⟩)] w fun e w' => ∃ lv st, e = .returned lv ∧ Has o w0 w' ((Part.skl b (T.at9 st)).sep (.strs lv ((C 0).map (ky T)))) := by
  obtain ⟨x, hr, h1⟩ := hX.skOpen
  have h3 : Has o w0 w ((SkP b x (T.at9 T.steps)).sep (.strs (.slice none 0 0) [])) := h1.beside (Has.nilStrs w)
  have HX := Lib.hid h3
  have HS := Lib.hid hs
  have HR := Lib.hid hr
  obtain ⟨i0, hi0, hz0, hz1, hz2⟩ := info_parts info_str
  have hlen : (C 0).length ≤ 65536 := by
    have : (C 0).length ≤ T.nN := by
      have hnd : (C 0).Nodup := (hs.srt 0 (by omega)).imp fun {u v} hk e => by rw [e] at hk; exact kl_irrefl _ hk
      have h2 : ∀ (l : List Nat) (n : Nat), l.Nodup → (∀ x ∈ l, x < n) → l.length ≤ n := by
        intro l n
        induction n generalizing l with
        | zero =>
          intro _ h
          cases l with
          | nil => exact Nat.le_refl _
          | cons y l => have := h y (by simp); omega
        | succ n ih =>
          intro hl h
          have h3 := ih (l.erase n) (hl.erase n) fun y hy => by
            have h4 := h y (List.mem_of_mem_erase hy)
            have h5 : y ≠ n := fun e => by subst e; exact (hl.not_mem_erase) hy
            omega
          rw [List.length_erase] at h3
          split at h3 <;> omega
      exact h2 _ _ hnd fun v hv => (hs.mem 0 (by omega) v hv).2.1
    omega
  clear hX hr h1 h3 hs
  go_enter Tryd.func15, Tryd.ntmps15
  go_wp2_with fail
  go_loopg [3, 4] ((C 0).length) (fun k lv nv wr => ∃ (pre suf : List Nat) (n : Nat) (S : Ar) (st : Int), C 0 = pre ++ suf ∧ k = suf.length ∧ nv = .int .i64 n ∧ (n = 0 ∨ n ∈ C 0) ∧ Lk T 0 n suf ∧ SkRep S x.C (T.at9 st) ∧ Has o w0 wr ((SkP b { x with S := S } (T.at9 st)).sep (.strs lv (pre.map (ky T)))))
  case atStart => exact ⟨[], C 0, 0, x.S, T.steps, rfl, rfl, rfl, .inl rfl, HS.out.link 0 (by omega), HR.out, HX.out⟩
  case round =>
    clear HX HR
    obtain ⟨pre, suf, n, S, st, hC, hk, rfl, hn, hlk, hr, hX⟩ := hrel
    obtain ⟨sp, sc, hsl⟩ := strs_slice (strs_row hX)
    subst hsl
    have hnN : n < T.nN := by
      rcases hn with rfl | h
      · exact HS.out.one
      · exact (HS.out.mem 0 (by omega) n h).2.1
    have hat := HS.out.atp (l := 0) (by omega) hn
    have hpl : (pre.map (ky T)).length + suf.length ≤ 65536 := by
      rw [hC] at hlen
      simp only [List.length_append, List.length_map] at hlen ⊢
      omega
    obtain ⟨g, cap, env, c1, hm9, _⟩ := kt_node hX hnN
    obtain ⟨f0, f1⟩ := kt_fields hX
    replace f1 : _ = some (Value.slice (some ⟨g, 0, none⟩) T.nN cap) := f1.trans (congrArg some env)
    have c2 := kt_tower hX hat
    have h9 : T.nN ≤ 9223372036854775807 := Nat.le_trans hm9 (by decide)
    have q1 : 0 ≤ (n : Int) ∧ (n : Int) < (T.nN : Int) := by omega
    have HLD := Lib.hid (fun (W : World) (hW : Has o w0 W ((SkP b { x with S := S } (T.at9 st)).sep (.strs (.slice sp (pre.map (ky T)).length sc) (pre.map (ky T))))) => kt_load hW hr (n, 0) _ hat)
    have HX := Lib.hid hX
    have HC := Lib.hid hC
    have HK := Lib.hid hk
    have HENV := Lib.hid env
    have HLEN := Lib.hid hpl
    have HLK := Lib.hid hlk
    have HAT := Lib.hid hat
    have c1 : wr.cell? ⟨g, n, none⟩ = some (.pointer (some ⟨x.nb n, 0, none⟩)) := c1
    have c2 : wr.cell? ⟨x.nb n, 19, none⟩ = some (.int .i64 (x.C n 0 : Nat)) := c2
    clear hX hr hC hk env hpl hlen hn hm9 hlk hat
    obtain ⟨ks, hks⟩ : ∃ ks, pre.map (ky T) = ks := ⟨_, rfl⟩
    rw [hks] at HX HLD HLEN ⊢
    have HKS := Lib.hid hks
    clear hks
    go_wp2_with fail
    go_region_held3 (fun w' => w'.cell? ⟨b, 0, none⟩ = some (.pointer (some ⟨T.ab, 0, none⟩)) ∧ w'.cell? ⟨b, 1, none⟩ = some (.slice (some ⟨g, 0, none⟩) T.nN cap) ∧ w'.cell? ⟨g, n, none⟩ = some (.pointer (some ⟨x.nb n, 0, none⟩)) ∧ w'.cell? ⟨x.nb n, 19, none⟩ = some (.int .i64 (x.C n 0 : Nat)))
      (first | exact ⟨f0, f1, c1, c2⟩ | exact ⟨d0, d1, d2, d3⟩ | go_keep)
      (first | (go_at_call 27
                refine (HLD.out _ (HX.out.quiet ((Kept.refl _ _).drew))).mono ?_
                rintro e w2 ⟨rfl, S2, st2, hr2, hX2⟩
                obtain ⟨d0, d1⟩ := kt_fields hX2
                replace d1 : _ = some (Value.slice (some ⟨g, 0, none⟩) T.nN cap) := d1.trans (congrArg some HENV.out)
                obtain ⟨g', cap', env', d2, _⟩ := kt_node hX2 hnN
                obtain rfl : g = g' := by
                  have e := HENV.out.symm.trans env'
                  simp only [Value.slice.injEq, Option.some.injEq, Addr.mk.injEq] at e
                  exact e.1.1
                have d3 : w2.cell? ⟨x.nb n, 19, none⟩ = some (.int .i64 (x.C n 0 : Nat)) := kt_tower hX2 HAT.out
                have HX2 := Lib.hid hX2
                have HR2 := Lib.hid hr2
                clear hX2 hr2 env'))
    obtain ⟨v, hv⟩ : ∃ v, (T.E n).nx 0 = v := ⟨_, rfl⟩
    rw [hv]
    have HV := Lib.hid hv
    clear HX HLD hv f0 f1 c1 c2 d2 d3
    have hsuf := HLK.out
    cases suf with
    | nil =>
      have h0 : v = 0 := HV.out.symm.trans hsuf
      subst h0
      clear hsuf
      go_wp2_with fail
      go_ret
      obtain ⟨o4, h4, _, _, b4⟩ := HX2.out.left
      exact ⟨_, st2, rfl, by
        have h9 := b4 _ _ (Has.skShut HR2.out h4)
        have e9 := HC.out
        rw [List.append_nil] at e9
        rw [e9, HKS.out]; exact h9⟩
    | cons m s2 =>
      have hvm : v = (m : Int) := HV.out.symm.trans hsuf.1
      subst hvm
      have hmC : m ∈ C 0 := by rw [HC.out]; simp
      obtain ⟨hm1, hmN, _⟩ := HS.out.mem 0 (by omega) m hmC
      have e1 : ((m : Int) == 0) = false := by simp; omega
      have e1' : (m == 0) = false := by simp; omega
      have e2 : decide ((m : Int) = 0) = false := by simp; omega
      have q2 : 0 ≤ (m : Int) ∧ (m : Int) < (T.nN : Int) := by omega
      obtain ⟨g', cap', env', k1, _, k2⟩ := kt_node HX2.out hmN
      obtain rfl : g = g' := by
        have e := HENV.out.symm.trans env'
        simp only [Value.slice.injEq, Option.some.injEq, Addr.mk.injEq] at e
        exact e.1.1
      obtain ⟨kk, hkk⟩ : ∃ kk, (T.E m).key = kk := ⟨_, rfl⟩
      rw [hkk] at k2
      have k1 : w2.cell? ⟨g, m, none⟩ = some (.pointer (some ⟨x.nb m, 0, none⟩)) := k1
      have k2 : w2.cell? ⟨x.nb m, 0, none⟩ = some (.string kk) := k2
      have HKK := Lib.hid hkk
      have HML := Lib.hid (And.intro hmC hsuf.2)
      have HROW := Lib.hid (strs_row (HX2.out.alloc (.cells #[.string kk] 9)))
      have hl9 : ks.length + 1 ≤ 65536 := by have hpl := HLEN.out; simp only [List.length_cons] at hpl; omega
      clear hsuf hmC env' hkk HLEN
      go_wp2_with (at_builtin; refine wpList_append_new rfl (.tmp 33) (.tmp 44) 46 rfl 9 i0 (.string ⟨#[]⟩) 1 16 Tryd.underlying46 hi0 hz0 hz1 hz2 rfl (by decide) _ _ _ rfl HROW.out ⟨_, 0, none⟩ 1 1 [.string kk] rfl rfl (cell_one _ _ _ _ rfl) (by intro u hu; simp at hu; subst hu; rfl) (by simp only [maxLen]; omega) (by omega) ?_)
      intro v' w6 happ
      have hX6 := kt_append _ HX2.out happ
      have HX6 := Lib.hid hX6
      clear hX6 happ k1 k2 d0 d1
      go_wp2_with fail
      go_roundg s2.length
      case measure => rw [HK.out]; exact Nat.lt_succ_self _
      case rel => exact ⟨pre ++ [m], s2, m, S2, st2, by rw [HC.out, List.append_assoc]; rfl, rfl, by go_num, .inr HML.out.1, HML.out.2, HR2.out, by
        have h9 := HX6.out
        rw [List.map_append, HKS.out]
        have e9 : ks ++ List.map (ky T) [m] = ks ++ [kk] := by rw [← HKK.out]; rfl
        rw [e9]; exact h9⟩
end Go.Proofs.YtpckpgdkfimapaaDoor
namespace Go.Proofs.YtpckpgdkfimapaaDoor
open Go Go.RowKit
set_option linter.unusedVariables false

variable {o : List Nat} {w0 w : World} {b m : Nat} {T : ASk} {C : Nat → List Nat} {R : Part} {ob : Nat} {q : ASop} {n : Nat} {y : Nat → SAsk} {iv : Value}

theorem arrS_at9 {T : ASk} {q : ASop} {v : Int} (hk : q.kind ≠ 0) : (arrS T q v).1 = T := by
  unfold arrS
  split
  · rfl
  · rfl
theorem walkS_at9 {T : ASk} {q : ASop} (hk : q.kind ≠ 0) : (walkS T q).1 = T.step := by
  unfold walkS
  dsimp only
  split
  · rfl
  split
  · rfl
  · exact arrS_at9 hk
theorem stepS_at9 {st : Int} (hk : q.kind ≠ 0) (hd : q.does = 0) : ∃ st', (stepS (T.at9 st) q).1 = T.at9 st' := by
  unfold stepS
  rw [if_neg (by omega)]
  split
  · split
    · exact ⟨st, rfl⟩
    · exact ⟨_, walkS_at9 hk⟩
  · exact ⟨_, walkS_at9 hk⟩
theorem skp_at9 (hs : Skp T C) (st : Int) : Skp (T.at9 st) C :=
  ⟨hs.one, hs.head, hs.hts, hs.wds, fun l hl => Lk.congr (hs.link l hl) fun _ _ => rfl, hs.mem, hs.srt, hs.sub⟩
theorem opi_at9 {D : List Nat} (i : OpI T C q D) (hs : Skp T C) (st : Int) : OpI (T.at9 st) C q D := by
  refine i.rest (T' := T.at9 st) (own := -1) hs ⟨Nat.le_refl _, rfl, rfl, fun _ _ => ⟨rfl, rfl, rfl, rfl⟩, fun _ _ _ => rfl, fun _ _ => List.Sublist.refl _, fun _ _ _ h => .inl h, fun _ _ _ _ _ _ _ => rfl⟩ ?_
  rcases i.own with e | ⟨m, j, e1, _⟩
  · exact .inl e.1
  · right; omega

/-- A lookup under way. -/
def Lkg (b : Nat) (T : ASk) (C : Nat → List Nat) (n : Nat) (ob : Nat) (key : ByteArray) (o : List Nat) (w0 : World) (c : Nat) (W : World) : Prop :=
  ∃ st q, OpI (T.at9 st) C q (C 0) ∧ q.key = key ∧ q.kind = 1 ∧ cost n (T.at9 st) C q ≤ c ∧ Has o w0 W ((Part.skl b (T.at9 st)).sep (.sop ob (some ⟨b, 0, none⟩) q))
/-- A lookup that is done, of a key that is in. -/
def Lkd (b : Nat) (T : ASk) (C : Nat → List Nat) (ob : Nat) (key : ByteArray) (o : List Nat) (w0 : World) (W : World) : Prop :=
  ∃ st q, q.does = 3 ∧ q.had = true ∧ q.code = 0 ∧ q.found = key ∧ (∃ v ∈ C 0, ky T v = key ∧ q.ref = (T.E v).ref) ∧ Has o w0 W ((Part.skl b (T.at9 st)).sep (.sop ob (some ⟨b, 0, none⟩) q))

theorem lk_ends (hT : TabAt w0) (ho : 0 ∉ o) (hs : Skp T C) (hN : T.nN ≤ 65536) (hfit : T.used + 8 ≤ T.size) (hl : (C 0).length ≤ n) {key : ByteArray} (hin : ∃ v ∈ C 0, ky T v = key) :
    Ends ob (Lkg b T C n ob key o w0) (Lkd b T C ob key o w0) := by
  rintro c W ⟨st, q, hO, hk, hp, hc, hX⟩
  have hs9 := skp_at9 hs st
  have hw : q.own = 0 := by
    rcases hO.own with h | ⟨_, _, _, _, _, _, _, _, _, h, _⟩
    · exact h.1
    · omega
  have hd : q.does = 0 := by
    rcases Decidable.em (q.does = 0) with h | h
    · exact h
    · exact absurd hw (hO.busy h)
  obtain ⟨st', hst⟩ := stepS_at9 (T := T) (st := st) (q := q) (by omega) hd
  obtain ⟨C', R⟩ := step_law (N := n) hs9 hO hl
  have hCC : C' = C := by
    rcases R.cost with h | ⟨⟨l, hl8, h1, _⟩, _⟩
    · exact h.1
    · exfalso
      have hnd : (C' l).Nodup := (R.skp.srt l hl8).imp fun {u v} hk e => by rw [e] at hk; exact kl_irrefl _ hk
      have := len_le (C' l) (C l) hnd fun v hv => by
        rcases R.rest.new l hl8 v hv with h | ⟨h, _⟩
        · exact h
        · have := (R.skp.mem l hl8 v hv).1; omega
      omega
  subst hCC
  obtain ⟨x, hr, h2⟩ := op_open hX
  refine (step_all h2 hr (hO.ok hs9 hN hfit) hT ho).mono ?_
  rintro e w' ⟨rfl, x', hr', h'⟩
  have hX2 := op_shut hr' h'
  rw [hst] at hX2
  rcases R.come with ⟨b1, b2, b3⟩ | ⟨b1, b2⟩
  · right
    rcases R.cost with ⟨_, _, c3⟩ | ⟨⟨l, _, c2, _⟩, _⟩
    · have c3 := c3 b1
      rw [hst] at b2 c3
      exact ⟨by rw [b1], _, Nat.lt_of_lt_of_le c3 hc, st', _, b2, R.same.1.trans hk, R.same.2.1.trans hp, Nat.le_refl _, hX2⟩
    · omega
  · left
    refine ⟨by rw [b1], st', _, b2.1, ?_⟩
    obtain ⟨v, hv, hkv⟩ := hin
    have hkk : keyB key = true := by
      rw [← hkv]
      obtain ⟨h1, h2, _⟩ := hs.mem 0 (by omega) v hv
      exact (hs.wds v h1 h2).2
    have hkq : (stepS (T.at9 st) q).2.1.key = key := R.same.1.trans hk
    have hpq : (stepS (T.at9 st) q).2.1.kind = 1 := R.same.2.1.trans hp
    obtain ⟨_, ⟨_, h, _⟩ | ⟨h0, _, ⟨h, _⟩ | ⟨h, _⟩ | ⟨_, h1, h2, v, h3, h4, h5⟩ | ⟨_, _, _, _, h⟩ | ⟨h, _⟩⟩⟩ := b2
    · rw [hkq, hkk] at h; cases h
    · omega
    · omega
    · rw [hst] at h4 h5
      exact ⟨h1, h0, h2.trans hkq, ⟨v, h3, h4.trans hkq, h5⟩, hX2⟩
    · refine absurd ?_ (h v hv)
      rw [hkq, hst]; exact hkv
    · omega

theorem look_done (hT : TabAt w0) (hs : Skp T C) (hN : T.nN ≤ 65536) (hfit : T.used + 8 ≤ T.size) (hl : (C 0).length ≤ n) {key : ByteArray} (hin : ∃ v ∈ C 0, ky T v = key) {st : Int} (h : Has [] w0 w (((Part.skl b (T.at9 st)).sep (.sop ob (some ⟨b, 0, none⟩) (.new 1 key key 0 0))).sep R)) (most : Nat) (hm : n + 25 ≤ most) (hm9 : most ≤ 1000000) :
    Calls Tryd.prog 17 #[.pointer (some ⟨ob, 0, none⟩), .int .i64 (most : Nat)] w fun e w' => ∃ r : Nat, e = .returned (.int .i64 ((r : Int) + 1)) ∧ ∃ st q, q.does = 3 ∧ q.had = true ∧ q.code = 0 ∧ q.found = key ∧ (∃ v ∈ C 0, ky T v = key ∧ q.ref = (T.E v).ref) ∧ Has [] w0 w' (((Part.skl b (T.at9 st)).sep (.sop ob (some ⟨b, 0, none⟩) q)).sep R) := by
  obtain ⟨o1, h1, p1, _, b1⟩ := h.left
  have hTw : TabAt w := hT.kept h.keeps (by simp)
  have ho : 0 ∉ o1 := tab_out hT (by simp) p1
  have hO : OpI (T.at9 st) C (.new 1 key key 0 0) (C 0) :=
    opi_at9 (⟨fun u hu => hu, .inr (.inl rfl), ⟨fun _ => rfl, fun h => absurd (show (1 : Int) = 2 from h) (by omega)⟩, fun h => (by cases h), ⟨Int.le_refl _, by show (0 : Int) ≤ 8; omega, fun h => absurd (show (1 : Int) = 0 from h) (by omega)⟩, rfl, fun _ => ⟨rfl, rfl, rfl⟩, .inl ⟨rfl, rfl⟩, .inl rfl, fun h => absurd rfl h, fun h => (by cases h), fun h => (by cases h), fun h => absurd rfl h, fun h => absurd (show (0 : Int) = 2 from h) (by omega)⟩) hs st
  have hc : cost n (T.at9 st) C (.new 1 key key 0 0) = n + 24 := by
    unfold cost
    rw [left_new rfl]; rfl
  have hL : Lkg b T C n ob key o1 w (n + 24) w := ⟨st, _, hO, rfl, rfl, by rw [hc]; exact Nat.le_refl _, h1⟩
  refine (done_any (lk_ends (n := n) hTw ho hs hN hfit hl hin) (n + 24) most (by omega) (by omega) hL).mono ?_
  rintro e w' ⟨r, rfl, st', q', d1, d2, d3, d4, d5, h'⟩
  exact ⟨r, rfl, st', q', d1, d2, d3, d4, d5, b1 _ _ h'⟩

set_option maxHeartbeats 2000000 in
set_option maxRecDepth 100000 in
theorem find_walk (w : World) (p : Option Addr) (m c : Nat) (y : Nat → SAsk) (key : ByteArray) (h : AskIn w p m y) (hm : m ≤ 1000000) :
    Calls Tryd.prog 26 #[.slice p m c, .string key] w fun e w' => ∃ r : Int, e = .returned (.int .i64 r) ∧ w' = w ∧ ((r = -1 ∧ ∀ i, i < m → (y i).key ≠ key) ∨ ∃ i : Nat, i < m ∧ r = (i : Int) ∧ (y i).key = key) := by
  have H := Lib.hid h
  clear h
  go_enter Tryd.func26, Tryd.ntmps26
  go_wp2_with fail
  go_loopg [5] m (fun k iv wr => ∃ i : Nat, i ≤ m ∧ k = m - i ∧ iv = .int .i64 i ∧ (∀ j, j < i → (y j).key ≠ key) ∧ wr = w)
  case atStart => exact ⟨0, Nat.zero_le _, rfl, rfl, fun j hj => absurd hj (Nat.not_lt_zero _), rfl⟩
  case round =>
    obtain ⟨i, hi, hk, rfl, hno, rfl⟩ := hrel
    have HNO := Lib.hid hno
    have HKK := Lib.hid hk
    clear hno hk
    by_cases hlt : i < m
    · have d1 : decide ((i : Int) < (m : Int)) = true := by simp; omega
      have d1' : decide (i < m) = true := by simpa using hlt
      have q1 : 0 ≤ (i : Int) ∧ (i : Int) < (m : Int) := by omega
      obtain ⟨g, off, rfl, hc⟩ := H.out (by omega)
      obtain ⟨_, _, c2, _⟩ := hc i hlt
      have HLT := Lib.hid hlt
      clear hc hlt
      by_cases he : (y i).key = key
      · have s1 := str_same key
        rw [he] at c2
        have HE := Lib.hid he
        clear he
        go_wp2_with fail
        go_ret
        exact ⟨(i : Int), rfl, rfl, .inr ⟨i, HLT.out, rfl, HE.out⟩⟩
      · have s1 := str_ne he
        have HE := Lib.hid he
        clear he
        go_wp2_with fail
        go_roundg (m - (i + 1))
        case measure => rw [HKK.out]; have := HLT.out; omega
        case rel => exact ⟨i + 1, HLT.out, rfl, by go_num, fun j hj => by
          by_cases e : j = i
          · subst e; exact HE.out
          · exact HNO.out j (by omega), rfl⟩
    · have d1 : decide ((i : Int) < (m : Int)) = false := by simp; omega
      have d1' : decide (i < m) = false := by simpa using hlt
      obtain rfl : i = m := by omega
      clear hlt
      go_wp2_with fail
      go_ret
      exact ⟨-1, rfl, rfl, .inl ⟨rfl, HNO.out⟩⟩

/-- Texts that can be read. -/
def StrIn (w : World) (p : Option Addr) (n : Nat) (z : Nat → ByteArray) : Prop := 0 < n → ∃ g off, p = some ⟨g, off, none⟩ ∧ ∀ i, i < n → w.cell? ⟨g, off + i, none⟩ = some (.string (z i))
theorem StrIn.kept {w w' : World} {p : Option Addr} {n : Nat} {z : Nat → ByteArray} (h : StrIn w p n z) (k : Kept [] w w') : StrIn w' p n z := by
  intro h0
  obtain ⟨g, off, e, hc⟩ := h h0
  exact ⟨g, off, e, fun i hi => k.cell (hc i hi) (by simp)⟩

set_option maxHeartbeats 2000000 in
set_option maxRecDepth 100000 in
theorem sorted_walk (w : World) (p : Option Addr) (m c : Nat) (z : Nat → ByteArray) (q : Option Addr) (d : Nat) (y : Nat → SAsk) (h : StrIn w p m z) (hy : AskIn w q m y) (hm : m ≤ 1000000) (hin : ∀ i, i < m → ∃ j, j < m ∧ (y j).key = z i)
    (hr : ∀ i, i + 1 < m → kl (z i) (z (i + 1))) :
    Calls Tryd.prog 14 #[.slice p m c, .slice q m d] w fun e w' => e = .returned (.bool true) ∧ Kept [] w w' := by
  have H := Lib.hid h
  have HY := Lib.hid hy
  have HI := Lib.hid hin
  have HR := Lib.hid hr
  have g1 : ((m : Int) != (m : Int)) = false := by simp
  have g1' : (m != m) = false := by simp
  clear h hy hin hr
  go_enter Tryd.func14, Tryd.ntmps14
  go_wp2_with fail
  go_loopg [5] m (fun k iv wr => ∃ i : Nat, i ≤ m ∧ k = m - i ∧ iv = .int .i64 i ∧ Kept [] w wr)
  case atStart => exact ⟨0, Nat.zero_le _, rfl, rfl, Kept.refl _ _⟩
  case round =>
    obtain ⟨i, hi, hk, rfl, hw⟩ := hrel
    have HW := Lib.hid hw
    have HKK := Lib.hid hk
    clear hw hk
    by_cases hlt : i < m
    · have d1 : decide ((i : Int) < (m : Int)) = true := by simp; omega
      have d1' : decide (i < m) = true := by simpa using hlt
      have q1 : 0 ≤ (i : Int) ∧ (i : Int) < (m : Int) := by omega
      obtain ⟨g, off, rfl, hc⟩ := (H.out.kept HW.out) (by omega)
      have c2 := hc i hlt
      have HF := Lib.hid (show Calls Tryd.prog 26 #[.slice q m d, .string (z i)] wr fun e w' => ∃ r : Nat, e = .returned (.int .i64 (r : Int)) ∧ w' = wr from by
        refine (find_walk wr q m d y (z i) (HY.out.kept HW.out) hm).mono ?_
        rintro e w' ⟨r, rfl, rfl, ⟨_, h0⟩ | ⟨j, _, rfl, _⟩⟩
        · obtain ⟨j, hj, e⟩ := HI.out i hlt
          exact absurd e (h0 j hj)
        · exact ⟨j, rfl, rfl⟩)
      have HLT := Lib.hid hlt
      have HC := Lib.hid hc
      clear hlt hc
      go_wp2_with fail
      refine HF.out.mono ?_
      rintro e w2 ⟨r, rfl, rfl⟩
      have e1 : decide ((r : Int) < 0) = false := by simp
      clear HF
      cases i with
      | zero =>
        go_wp2_with fail
        go_region
        go_wp2_with fail
        go_roundg (m - (0 + 1))
        case measure => rw [HKK.out]; have := HLT.out; omega
        case rel => exact ⟨1, HLT.out, rfl, rfl, HW.out.drew⟩
      | succ j =>
        have e2 : decide ((j : Int) + 1 > 0) = true := decide_eq_true (by omega)
        have e2' : decide (0 < (j : Int) + 1) = true := decide_eq_true (by omega)
        have q3 : 0 ≤ (j : Int) + 1 ∧ (j : Int) + 1 < (m : Int) := by omega
        have hlt2 : Op.bytesLess (z j).toList (z (j + 1)).toList = true := lessB_iff.2 (HR.out j HLT.out)
        have c3 := HC.out j (by have := HLT.out; omega)
        have q2 : 0 ≤ (j : Int) ∧ (j : Int) < (m : Int) := by omega
        go_wp2_with fail
        go_quiet (fail)
        go_wp2_with fail
        go_roundg (m - (j + 1 + 1))
        case measure => rw [HKK.out]; have := HLT.out; omega
        case rel => exact ⟨j + 1 + 1, HLT.out, rfl, by go_num, HW.out.drewN _⟩
    · have d1 : decide ((i : Int) < (m : Int)) = false := by simp; omega
      have d1' : decide (i < m) = false := by simpa using hlt
      obtain rfl : i = m := by omega
      clear hlt
      go_wp2_with fail
      go_ret
      exact ⟨rfl, HW.out⟩

def askF (y : Nat → SAsk) (i : Nat) : List Value := [.int .i64 (y i).wk, .int .i64 (y i).kind, .string (y i).key, .int .i64 (y i).ref, .int .i64 (y i).height]
theorem askF_len (y : Nat → SAsk) (i : Nat) : (askF y i).length = 5 := rfl
/-- Asks that a slice owns. -/
noncomputable def Part.asks (v : Value) (m : Nat) (y : Nat → SAsk) : Part := .rows 37 5 v m (askF y)
theorem asks_slice (h : Has o w0 w (R.sep (.asks iv m y))) : ∃ p c, iv = .slice p m c := by
  obtain ⟨o1, h1, _⟩ := h.right
  exact h1.rowsSlice
theorem asks_read {p : Option Addr} {c : Nat} (h : Has o w0 w (R.sep (.asks (.slice p m c) m y))) (hr : ∀ i, i < m → (-9223372036854775808 ≤ (y i).wk ∧ (y i).wk < 9223372036854775808) ∧ (-9223372036854775808 ≤ (y i).kind ∧ (y i).kind < 9223372036854775808)) : AskIn w p m y := by
  intro h0
  obtain ⟨o1, h1, _⟩ := h.right
  obtain ⟨g, cap, e, _⟩ := h1.rowsAt (askF_len y) h0
  simp only [Value.slice.injEq] at e
  obtain ⟨rfl, _, rfl⟩ := e
  refine ⟨g, 0, rfl, fun i hi => ?_⟩
  obtain ⟨g2, cap2, e2, hc, _⟩ := h1.rowsAt (askF_len y) hi
  simp only [Value.slice.injEq, Option.some.injEq, Addr.mk.injEq] at e2
  obtain ⟨⟨rfl, _⟩, _⟩ := e2
  rw [Nat.zero_add]
  exact ⟨hc 0 _ rfl, hc 1 _ rfl, hc 2 _ rfl, hc 3 _ rfl, hc 4 _ rfl, hr i hi⟩
theorem strs_read {p : Option Addr} {c : Nat} {l : List ByteArray} (h : Has o w0 w (R.sep (.strs (.slice p l.length c) l))) : StrIn w p l.length (fun i => l.getD i ⟨#[]⟩) := by
  intro h0
  have hr := strs_row h
  rcases row_val hr with ⟨_, h1⟩ | ⟨g, cap, e, _⟩
  · omega
  obtain ⟨o1, h1, _⟩ := h.right
  simp only [Value.slice.injEq] at e
  obtain ⟨rfl, _, rfl⟩ := e
  refine ⟨g, 0, rfl, fun i hi => ?_⟩
  have h2 : Has o1 w w (.row 9 1 (.slice (some ⟨g, 0, none⟩) l.length c) l.length (l.map Value.string)) := h1
  obtain ⟨c1, _⟩ := Has.rowCell h2 i (.string (l.getD i ⟨#[]⟩)) (by rw [List.getElem?_map, List.getD_eq_getElem?_getD, List.getElem?_eq_getElem hi]; rfl)
  rw [Nat.zero_add]; exact c1
end Go.Proofs.YtpckpgdkfimapaaDoor
