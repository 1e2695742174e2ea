/- The walk of Keys.
The walks of the statements' own find and sorted.
When all is done: who has put a key in, and what all others were told. Nothing is claimed of a program here.
The walk of the statements' own fits. -/
import Derived.Test.YtmldighidbfhhaaDoorMHol7
import Derived.Laws.Cover1
import Derived.Deep.CutRange
namespace Go.Proofs.YtmldighidbfhhaaDoor
open Go Go.RowKit
set_option linter.unusedVariables false

variable {o : List Nat} {w0 w : World} {b : Nat} {x : HtIx} {T : AHt} {C : Nat → List Nat} {R : Part}

/-- The keys of the first chains. -/
def keysL (T : AHt) (C : Nat → List Nat) (i : Nat) : List ByteArray := (List.range i).flatMap fun j => (C j).map (ky T)
theorem keysL_succ (T : AHt) (C : Nat → List Nat) (i : Nat) : keysL T C (i + 1) = keysL T C i ++ (C i).map (ky T) := by
  unfold keysL
  rw [List.range_succ, List.flatMap_append]
  simp
theorem keysL_len (T : AHt) (C : Nat → List Nat) (i : Nat) : (keysL T C i).length = sumL (fun j => (C j).length) i := by
  induction i with
  | zero => rfl
  | succ i ih => rw [keysL_succ, List.length_append, ih, List.length_map]; rfl
theorem sumL_mono (f : Nat → Nat) {i n : Nat} (h : i ≤ n) : sumL f i ≤ sumL f n := by
  induction n with
  | zero =>
    obtain rfl : i = 0 := by omega
    exact Nat.le_refl _
  | succ n ih =>
    rcases Nat.lt_or_eq_of_le h with h1 | rfl
    · have := ih (by omega)
      show _ ≤ sumL f n + f n
      omega
    · exact Nat.le_refl _

/-- A table at another count of steps. -/
def AHt.at9 (T : AHt) (st : Int) : AHt := { T with steps := st }
theorem at9_self (T : AHt) : T.at9 T.steps = T := rfl

theorem kt_load {st : Int} (h : Has o w0 w ((HtP b x (T.at9 st)).sep R)) (hr : HtRep x.S x.C (T.at9 st)) (l : HLoc) (v : Int) (hl : T.at_ l = some v) :
    Calls Tryd.prog 28 #[.pointer (some ⟨T.ab, 0, none⟩), .int .i64 (x.C.of l)] w fun e w' => e = .returned (.tuple #[.int .u64 v, .int .i64 0]) ∧ ∃ S st', HtRep S x.C (T.at9 st') ∧ Has o w0 w' ((HtP b { x with S := S } (T.at9 st')).sep R) := by
  obtain ⟨o1, h1, _, _, b1⟩ := h.left
  have hl' : (T.at9 st).at_ l = some v := by cases l <;> exact hl
  refine (ht_load h1 hr l v hl').mono ?_
  rintro e w' ⟨rfl, h'⟩
  exact ⟨rfl, x.S.step, wrap64 (st + 1), hr.step, b1 _ _ h'⟩
theorem kt_fields {st : Int} (h : Has o w0 w ((HtP b x (T.at9 st)).sep R)) : w.cell? ⟨b, 0, none⟩ = some (.pointer (some ⟨T.ab, 0, none⟩)) ∧ w.cell? ⟨b, 1, none⟩ = some x.hv ∧ w.cell? ⟨b, 2, none⟩ = some x.ev := by
  obtain ⟨o1, h1, _⟩ := h.left
  exact HtP.fields h1
theorem kt_append {st : Int} {w5 : World} {v v' : Value} {l : List ByteArray} {k : ByteArray} (ob : Obj) (h : Has o w0 w ((HtP b x (T.at9 st)).sep (.strs v l))) (happ : Appended (w.alloc ob) w5 9 1 v v' (l.length + 1) (l.map Value.string ++ [.string k])) :
    Has o w0 w5 ((HtP b x (T.at9 st)).sep (.strs v' (l ++ [k]))) := by
  obtain ⟨o1, h1, _, _, b1⟩ := h.right
  refine b1 w5 (.strs v' (l ++ [k])) ?_
  have := h1.appendRow (m := 1) (news := [.string k]) ob happ
  unfold Part.strs
  rw [List.length_append, List.map_append]
  exact this
theorem strs_row {v : Value} {l : List ByteArray} (h : Has o w0 w (R.sep (.strs v l))) : w.ownsRow 0 9 1 v l.length (l.map Value.string) := by
  obtain ⟨o1, h1, _⟩ := h.right
  obtain ⟨fp, ⟨hr, _⟩, _⟩ := h1; exact hr
theorem Has.nilStrs (w : World) : Has [] w w (.strs (.slice none 0 0) []) := ⟨[], ⟨World.ownsRow_nil _ _ _ _, by simp [rowsOf, Value.ownBlock]⟩, by simp, Kept.refl _ _⟩
theorem strs_slice {v : Value} {l : List ByteArray} (h : w.ownsRow 0 9 1 v l.length (l.map Value.string)) : ∃ p c, v = .slice p l.length c := by
  rcases row_val h with ⟨e, h0⟩ | ⟨g, c, e, _⟩
  · exact ⟨none, 0, by rw [h0]; exact e⟩
  · exact ⟨_, c, e⟩
theorem info_str : (Tryd.prog.info? 9).map (fun i => (i.zero, i.size, i.bytes)) = some (some (.string ⟨#[]⟩), 1, 16) := by kernel_rfl

set_option maxHeartbeats 8000000 in
set_option maxRecDepth 100000 in
theorem keys_walk (hX : Has o w0 w (.table b T)) (ht : Tab T C) (hB : 0 < T.nB) (hB9 : T.nB ≤ 256) (hn : T.nE ≤ 65536) (hlen : sumL (fun j => (C j).length) T.nB ≤ 65536) :
    Calls Tryd.prog 17 #[.pointer (some ⟨b, 0, none⟩)] w fun e w' => ∃ lv st, e = .returned lv ∧ Has o w0 w' ((Part.table b (T.at9 st)).sep (.strs lv (sortK (keysL T C T.nB)))) := by
  obtain ⟨x, hr, h1⟩ := hX.htOpen
  have h2 := h1.beside (Has.nilStrs w)
  have h3 : Has o w0 w ((HtP b x (T.at9 T.steps)).sep (.strs (.slice none 0 0) [])) := h2
  have HX := Lib.hid h3
  obtain ⟨f0, f1, f2⟩ := kt_fields h3
  have HTB := Lib.hid ht
  have HR := Lib.hid hr
  obtain ⟨g, cap, ehv, _⟩ := HtP.headCell h1 hB
  rw [ehv] at f1
  obtain ⟨i0, hi0, hz0, hz1, hz2⟩ := info_parts info_str
  clear hX hr h1 h2 h3 ht
  go_enter Tryd.func17, Tryd.ntmps17
  go_wp2_with fail
  go_loopg [3, 15] T.nB (fun k lv iv wr => ∃ (i : Nat) (S : Ar) (st : Int), i ≤ T.nB ∧ k = T.nB - i ∧ iv = .int .i64 i ∧ HtRep S x.C (T.at9 st) ∧ Has o w0 wr ((HtP b { x with S := S } (T.at9 st)).sep (.strs lv (keysL T C i))))
  case atStart => exact ⟨0, x.S, T.steps, Nat.zero_le _, rfl, rfl, HR.out, HX.out⟩
  case round =>
    clear HX f0 f1 f2 HR
    obtain ⟨i, S, st, hi, hk, rfl, hr, hX⟩ := hrel
    have HX := Lib.hid hX
    have HR := Lib.hid hr
    have HK := Lib.hid hk
    obtain ⟨sp, sc, hsl⟩ := strs_slice (strs_row hX)
    have hll : (keysL T C i).length ≤ 65536 := by rw [keysL_len]; exact Nat.le_trans (sumL_mono _ hi) hlen
    subst hsl
    clear hX hr hk
    by_cases hlt : i < T.nB
    · have d1 : decide ((i : Int) < (T.nB : Int)) = true := by simp; omega
      have d1' : decide (i < T.nB) = true := by simpa using hlt
      have q1 : 0 ≤ (i : Int) ∧ (i : Int) < (T.nB : Int) := by omega
      obtain ⟨o1, h1, _⟩ := HX.out.left
      obtain ⟨g2, cap2, e2, c1⟩ := HtP.headCell h1 (i := i) hlt
      obtain ⟨rfl, _, rfl⟩ : g = g2 ∧ T.nB = (T.at9 st).nB ∧ cap = cap2 := by simpa [ehv] using e2
      obtain ⟨f0, f1, f2⟩ := kt_fields HX.out
      have HLD := Lib.hid (kt_load HX.out HR.out (.head i) (T.H i) (by show (if i < T.nB then _ else _) = _; rw [if_pos hlt]))
      have HHD := Lib.hid (HTB.out.head i hlt)
      have HLT := Lib.hid hlt
      clear h1 e2 hlt HX HR
      go_wp2_with fail
      refine HLD.out.mono ?_
      rintro e w2 ⟨rfl, S2, st2, hr2, hX2⟩
      have HX2 := Lib.hid hX2
      have HR2 := Lib.hid hr2
      clear hX2 hr2 f0 f1 f2 c1
      go_wp2_with fail
      rw [HHD.out]
      have HSB := Lib.hid (show (keysL T C i).length + (C i).length ≤ 65536 from by
        have := sumL_mono (fun j => (C j).length) (i := i + 1) (n := T.nB) HLT.out
        rw [keysL_len]
        exact Nat.le_trans this hlen)
      go_loopg [3, 6] ((C i).length) (fun k lv nv wr => ∃ (pre suf : List Nat) (S : Ar) (st : Int), C i = pre ++ suf ∧ k = suf.length ∧ nv = .int .u64 (hdl suf) ∧ HtRep S x.C (T.at9 st) ∧ Has o w0 wr ((HtP b { x with S := S } (T.at9 st)).sep (.strs lv (keysL T C i ++ (pre.map (ky T))))))
      case atStart => exact ⟨[], C i, S2, st2, rfl, rfl, rfl, HR2.out, by rw [List.map_nil, List.append_nil]; exact HX2.out⟩
      case round =>
        clear HX2 HR2
        obtain ⟨pre, suf, S4, st4, hC, hk4, hnv, hr, hX⟩ := hrel
        have hsl := strs_slice (strs_row hX)
        obtain ⟨sp4, sc4, hsl⟩ := hsl
        subst hsl
        have hpl : (keysL T C i ++ pre.map (ky T)).length + suf.length ≤ 65536 := by
          have := HSB.out
          rw [hC] at this
          simp only [List.length_append, List.length_map] at this ⊢
          omega
        have HX4 := Lib.hid hX
        have HR4 := Lib.hid hr
        have HC4 := Lib.hid hC
        have HK4 := Lib.hid hk4
        have HLEN := Lib.hid hpl
        clear hX hr hk4 hpl
        cases suf with
        | nil =>
          obtain rfl : _ = Value.int .u64 0 := hnv
          clear hC
          go_wp2_with fail
          go_roundg (T.nB - (i + 1))
          case measure => rw [HK.out]; have := HLT.out; omega
          case rel => exact ⟨i + 1, S4, st4, HLT.out, rfl, by go_num, HR4.out, by
            have h9 := HX4.out
            have e9 := HC4.out
            rw [List.append_nil] at e9
            rw [keysL_succ, e9]; exact h9⟩
        | cons c s2 =>
          have hch := HTB.out.link i HLT.out
          rw [hC] at hch
          obtain ⟨k1, k2, k3, k4, _⟩ := Chn.tail pre hch
          obtain ⟨m, rfl⟩ : ∃ m, c = m + 1 := ⟨c - 1, by omega⟩
          obtain rfl : _ = Value.int .u64 ((m : Int) + 1) := hnv
          rw [Nat.add_sub_cancel] at k3 k4
          have hm : m < T.nE := by omega
          obtain ⟨o4, h4, _⟩ := HX4.out.left
          obtain ⟨ge, ecap, hev⟩ := HtP.entSlice h4 (show 0 < T.nE by omega)
          obtain ⟨e1, e2, e3, hsm⟩ := HtP.entCells h4 (i := m) hm hev
          have hev' : x.ev = .slice (some ⟨ge, 0, none⟩) T.nE ecap := hev
          obtain ⟨f0, f1, f2⟩ := kt_fields HX4.out
          have f2' : _ = some (Value.slice (some ⟨ge, 0, none⟩) T.nE ecap) := f2.trans (congrArg some hev')
          have h9 : T.nE ≤ 9223372036854775807 := Nat.le_trans hsm (by decide)
          have HAT := Lib.hid (fun (W : World) => at_walk W ge T.nE ecap m hm h9)
          have p1 : decide (0 < (m : Int) + 1) = true := decide_eq_true (by omega)
          have HM := Lib.hid hm
          have HNX := Lib.hid (show T.at_ (.next m) = some (hdl s2) from by show (if m < T.nE ∧ (T.E m).gone = false then _ else _) = _; rw [if_pos ⟨hm, k3⟩, k4])
          have HEV := Lib.hid hev'
          have HROW := Lib.hid (strs_row (HX4.out.alloc (.cells #[.string (T.E m).key] 9)))
          have hl9 : (keysL T C i ++ pre.map (ky T)).length + 1 ≤ 65536 := by have hpl := HLEN.out; simp only [List.length_cons] at hpl; omega
          clear h4 hev hC hch k1 k2 k3 k4 hev' hm f2 HLEN
          obtain ⟨ks, hks⟩ : ∃ ks, keysL T C i ++ pre.map (ky T) = ks := ⟨_, rfl⟩
          rw [hks] at HX4 HROW hl9 ⊢
          have HKS := Lib.hid hks
          clear hks
          go_wp2_with fail
          refine (HAT.out _).mono ?_
          rintro e w5 ⟨rfl, rfl⟩
          go_wp2_with (at_builtin; refine wpList_append_new rfl (.tmp 47) (.tmp 57) 49 rfl 9 i0 (.string ⟨#[]⟩) 1 16 Tryd.underlying49 hi0 hz0 hz1 hz2 rfl (by decide) _ _ _ rfl HROW.out ⟨_, 0, none⟩ 1 1 [.string (T.E m).key] rfl rfl (cell_one _ _ _ _ rfl) (by intro u hu; simp at hu; subst hu; rfl) (by simp only [maxLen]; omega) (by omega) ?_)
          intro v' w6 happ
          have hX6 := kt_append _ HX4.out happ
          obtain ⟨k6, hk6⟩ : ∃ k6, ks ++ [(T.E m).key] = k6 := ⟨_, rfl⟩
          rw [hk6] at hX6
          have HKS6 := Lib.hid hk6
          obtain ⟨sp6, sc6, hs6⟩ := strs_slice (strs_row hX6)
          subst hs6
          clear hk6
          have HX6 := Lib.hid hX6
          obtain ⟨f0, f1, f2⟩ := kt_fields hX6
          have f2' : _ = some (Value.slice (some ⟨ge, 0, none⟩) T.nE ecap) := f2.trans (congrArg some HEV.out)
          obtain ⟨o6, h6, _⟩ := hX6.left
          obtain ⟨e1, e2, e3, _⟩ := HtP.entCells h6 (i := m) HM.out HEV.out
          have HLD := Lib.hid (fun (W : World) (hW : Has o w0 W ((HtP b { x with S := S4 } (T.at9 st4)).sep (.strs (.slice sp6 k6.length sc6) k6))) => kt_load hW HR4.out (.next m) (hdl s2) HNX.out)
          clear hX6 happ HX4 h6 f2
          go_wp2_with fail
          go_region_law
            (first | (go_simp
                      go_at_call 29
                      refine (HAT.out _).mono ?_
                      rintro e w7 ⟨rfl, rfl⟩)
                   | (go_simp
                      go_at_call 28
                      refine (HLD.out _ (HX6.out.quiet ((Kept.refl _ _).drew))).mono ?_
                      rintro e w7 ⟨rfl, S7, st7, hr7, hX7⟩
                      have HX7 := Lib.hid hX7
                      have HR7 := Lib.hid hr7
                      clear hX7 hr7))
          all_goals (
            go_wp2_with fail
            go_roundg s2.length
            case measure => rw [HK4.out]; exact Nat.lt_succ_self _
            case rel => exact ⟨pre ++ [m + 1], s2, S7, st7, by rw [HC4.out, List.append_assoc]; rfl, rfl, rfl, HR7.out, by
              have h9 := HX7.out
              rw [List.map_append, ← List.append_assoc, HKS.out]
              have e9 : ks ++ List.map (ky T) [m + 1] = k6 := HKS6.out
              rw [e9]; exact h9⟩)
    · have d1 : decide ((i : Int) < (T.nB : Int)) = false := by simp; omega
      have d1' : decide (i < T.nB) = false := by simpa using hlt
      obtain rfl : i = T.nB := by omega
      have HSO := Lib.hid (fun (W : World) (hW : Has o w0 W ((HtP b { x with S := S } (T.at9 st)).sep (.strs (.slice sp (keysL T C T.nB).length sc) (keysL T C T.nB)))) => show Calls Tryd.prog 30 #[.slice sp (keysL T C T.nB).length sc] W fun e w' => e = .returned (.tuple #[]) ∧ Has o w0 w' ((HtP b { x with S := S } (T.at9 st)).sep (.strs (.slice sp (keysL T C T.nB).length sc) (sortK (keysL T C T.nB)))) from by
        obtain ⟨o5, h5, _, _, b5⟩ := hW.right
        refine (sort_walk h5 (by omega)).mono ?_
        rintro e w' ⟨rfl, h'⟩
        exact ⟨rfl, b5 _ _ h'⟩)
      have HS2 := Lib.hid (HSO.out _ HX.out)
      clear HSO
      generalize (keysL T C T.nB).length = nk at *
      go_wp2_with fail
      refine HS2.out.mono ?_
      rintro e w3 ⟨rfl, hX3⟩
      have HX3 := Lib.hid hX3
      clear hX3 HS2
      go_wp2_with fail
      go_ret
      obtain ⟨o4, h4, _, _, b4⟩ := HX3.out.left
      exact ⟨_, st, rfl, b4 _ _ (Has.htShut HR.out h4)⟩
end Go.Proofs.YtmldighidbfhhaaDoor
namespace Go.Proofs.YtmldighidbfhhaaDoor
open Go Go.RowKit
set_option linter.unusedVariables false

set_option maxHeartbeats 2000000 in
set_option maxRecDepth 100000 in
theorem find_walk (w : World) (p : Option Addr) (m c : Nat) (y : Nat → HAsk) (key : ByteArray) (h : AskIn w p m y) (hm : m ≤ 1000000) :
    Calls Tryd.prog 14 #[.slice p m c, .string key] w fun e w' => ∃ r : Int, e = .returned (.int .i64 r) ∧ w' = w ∧ ((r = -1 ∧ ∀ i, i < m → (y i).key ≠ key) ∨ ∃ i : Nat, i < m ∧ r = (i : Int) ∧ (y i).key = key) := by
  have H := Lib.hid h
  clear h
  go_enter Tryd.func14, Tryd.ntmps14
  go_wp2_with fail
  go_loopg [5] m (fun k iv wr => ∃ i : Nat, i ≤ m ∧ k = m - i ∧ iv = .int .i64 i ∧ (∀ j, j < i → (y j).key ≠ key) ∧ wr = w)
  case atStart => exact ⟨0, Nat.zero_le _, rfl, rfl, fun j hj => absurd hj (Nat.not_lt_zero _), rfl⟩
  case round =>
    obtain ⟨i, hi, hk, rfl, hno, rfl⟩ := hrel
    have HNO := Lib.hid hno
    have HKK := Lib.hid hk
    clear hno hk
    by_cases hlt : i < m
    · have d1 : decide ((i : Int) < (m : Int)) = true := by simp; omega
      have d1' : decide (i < m) = true := by simpa using hlt
      have q1 : 0 ≤ (i : Int) ∧ (i : Int) < (m : Int) := by omega
      obtain ⟨g, off, rfl, hc⟩ := H.out (by omega)
      obtain ⟨_, _, c2, _⟩ := hc i hlt
      have HLT := Lib.hid hlt
      clear hc hlt
      by_cases he : (y i).key = key
      · have s1 := str_same key
        rw [he] at c2
        have HE := Lib.hid he
        clear he
        go_wp2_with fail
        go_ret
        exact ⟨(i : Int), rfl, rfl, .inr ⟨i, HLT.out, rfl, HE.out⟩⟩
      · have s1 := str_ne he
        have HE := Lib.hid he
        clear he
        go_wp2_with fail
        go_roundg (m - (i + 1))
        case measure => rw [HKK.out]; have := HLT.out; omega
        case rel => exact ⟨i + 1, HLT.out, rfl, by go_num, fun j hj => by
          by_cases e : j = i
          · subst e; exact HE.out
          · exact HNO.out j (by omega), rfl⟩
    · have d1 : decide ((i : Int) < (m : Int)) = false := by simp; omega
      have d1' : decide (i < m) = false := by simpa using hlt
      obtain rfl : i = m := by omega
      clear hlt
      go_wp2_with fail
      go_ret
      exact ⟨-1, rfl, rfl, .inl ⟨rfl, HNO.out⟩⟩

theorem byt_less {a b : ByteArray} (h : byt a < byt b) : Op.bytesLess a.toList b.toList = true := by
  rw [bytesLess_eq, ByteArray.toList_eq, ByteArray.toList_eq]
  exact decide_eq_true h
/-- Texts that can be read. -/
def StrIn (w : World) (p : Option Addr) (n : Nat) (z : Nat → ByteArray) : Prop := 0 < n → ∃ g off, p = some ⟨g, off, none⟩ ∧ ∀ i, i < n → w.cell? ⟨g, off + i, none⟩ = some (.string (z i))
theorem StrIn.kept {w w' : World} {p : Option Addr} {n : Nat} {z : Nat → ByteArray} (h : StrIn w p n z) (k : Kept [] w w') : StrIn w' p n z := by
  intro h0
  obtain ⟨g, off, e, hc⟩ := h h0
  exact ⟨g, off, e, fun i hi => k.cell (hc i hi) (by simp)⟩

set_option maxHeartbeats 2000000 in
set_option maxRecDepth 100000 in
theorem sorted_walk (w : World) (p : Option Addr) (m c : Nat) (z : Nat → ByteArray) (q : Option Addr) (d : Nat) (y : Nat → HAsk) (h : StrIn w p m z) (hy : AskIn w q m y) (hm : m ≤ 1000000) (hin : ∀ i, i < m → ∃ j, j < m ∧ (y j).key = z i)
    (hr : ∀ i, i + 1 < m → byt (z i) < byt (z (i + 1))) :
    Calls Tryd.prog 16 #[.slice p m c, .slice q m d] w fun e w' => e = .returned (.bool true) ∧ Kept [] w w' := by
  have H := Lib.hid h
  have HY := Lib.hid hy
  have HI := Lib.hid hin
  have HR := Lib.hid hr
  clear h hy hin hr
  go_enter Tryd.func16, Tryd.ntmps16
  go_wp2_with fail
  go_loopg [5] m (fun k iv wr => ∃ i : Nat, i ≤ m ∧ k = m - i ∧ iv = .int .i64 i ∧ Kept [] w wr)
  case atStart => exact ⟨0, Nat.zero_le _, rfl, rfl, Kept.refl _ _⟩
  case round =>
    obtain ⟨i, hi, hk, rfl, hw⟩ := hrel
    have HW := Lib.hid hw
    have HKK := Lib.hid hk
    clear hw hk
    by_cases hlt : i < m
    · have d1 : decide ((i : Int) < (m : Int)) = true := by simp; omega
      have d1' : decide (i < m) = true := by simpa using hlt
      have q1 : 0 ≤ (i : Int) ∧ (i : Int) < (m : Int) := by omega
      obtain ⟨g, off, rfl, hc⟩ := (H.out.kept HW.out) (by omega)
      have c2 := hc i hlt
      have HF := Lib.hid (show Calls Tryd.prog 14 #[.slice q m d, .string (z i)] wr fun e w' => ∃ r : Nat, e = .returned (.int .i64 (r : Int)) ∧ w' = wr from by
        refine (find_walk wr q m d y (z i) (HY.out.kept HW.out) hm).mono ?_
        rintro e w' ⟨r, rfl, rfl, ⟨_, h0⟩ | ⟨j, _, rfl, _⟩⟩
        · obtain ⟨j, hj, e⟩ := HI.out i hlt
          exact absurd e (h0 j hj)
        · exact ⟨j, rfl, rfl⟩)
      have HLT := Lib.hid hlt
      have HC := Lib.hid hc
      clear hlt hc
      go_wp2_with fail
      refine HF.out.mono ?_
      rintro e w2 ⟨r, rfl, rfl⟩
      have e1 : decide ((r : Int) < 0) = false := by simp
      clear HF
      cases i with
      | zero =>
        go_wp2_with fail
        go_region
        go_wp2_with fail
        go_roundg (m - (0 + 1))
        case measure => rw [HKK.out]; have := HLT.out; omega
        case rel => exact ⟨1, HLT.out, rfl, rfl, HW.out.drew⟩
      | succ j =>
        have e2 : decide ((j : Int) + 1 > 0) = true := decide_eq_true (by omega)
        have e2' : decide (0 < (j : Int) + 1) = true := decide_eq_true (by omega)
        have q3 : 0 ≤ (j : Int) + 1 ∧ (j : Int) + 1 < (m : Int) := by omega
        have hlt2 : Op.bytesLess (z j).toList (z (j + 1)).toList = true := byt_less (HR.out j HLT.out)
        have c3 := HC.out j (by have := HLT.out; omega)
        have q2 : 0 ≤ (j : Int) ∧ (j : Int) < (m : Int) := by omega
        go_wp2_with fail
        go_quiet (fail)
        go_wp2_with fail
        go_roundg (m - (j + 1 + 1))
        case measure => rw [HKK.out]; have := HLT.out; omega
        case rel => exact ⟨j + 1 + 1, HLT.out, rfl, by go_num, HW.out.drewN _⟩
    · have d1 : decide ((i : Int) < (m : Int)) = false := by simp; omega
      have d1' : decide (i < m) = false := by simpa using hlt
      obtain rfl : i = m := by omega
      clear hlt
      go_wp2_with fail
      go_ret
      exact ⟨rfl, HW.out⟩
end Go.Proofs.YtmldighidbfhhaaDoor
namespace Go.Proofs.YtmldighidbfhhaaDoor
open Go Go.RowKit
set_option linter.unusedVariables false

variable {B : Nat} {a : Nat → HAsk} {N : Nat} {t : Int} {g : Tg}

/-- All are over. -/
structure Fin (B : Nat) (a : Nat → HAsk) (N : Nat) (t : Int) (g : Tg) : Prop where
  inv : TgI B a N t g
  pos : 0 < B
  n : g.n = N
  over : ∀ k, k < N → 0 ≤ g.en k

/-- An operation that put its key in. -/
def putB (a : Nat → HAsk) (g : Tg) (k : Nat) : Bool := keyB (a (g.x k)).key && !(a (g.x k)).look && !(g.q k).had
theorem putB_iff {k : Nat} : putB a g k = true ↔ keyB (a (g.x k)).key = true ∧ (a (g.x k)).look = false ∧ (g.q k).had = false := by
  unfold putB; simp [and_assoc]
def puts (a : Nat → HAsk) (g : Tg) (i : Nat) : List Nat := (List.range i).filter (putB a g)
theorem puts_succ (a : Nat → HAsk) (g : Tg) (i : Nat) : puts a g (i + 1) = puts a g i ++ (if putB a g i = true then [i] else []) := by
  unfold puts
  rw [List.range_succ, List.filter_append]
  congr 1
  by_cases h : putB a g i = true
  · rw [if_pos h, List.filter_cons_of_pos h]; rfl
  · rw [if_neg h, List.filter_cons_of_neg h]; rfl
theorem mem_puts {i k : Nat} : k ∈ puts a g i ↔ k < i ∧ putB a g k = true := by
  unfold puts; simp
theorem puts_len (a : Nat → HAsk) (g : Tg) (i : Nat) : (puts a g i).length ≤ i := by
  unfold puts
  exact Nat.le_trans (List.length_filter_le _ _) (by simp)


theorem Fin.key (F : Fin B a N t g) {k : Nat} (hk : k < N) : g.x k < N ∧ (g.q k).key = (a (g.x k)).key ∧ (g.q k).puts = !(a (g.x k)).look := by
  obtain ⟨b1, b2, b3, _⟩ := F.inv.key k (by rw [F.n]; exact hk)
  exact ⟨b1, b2, b3⟩
theorem Fin.nB (F : Fin B a N t g) : 0 < g.T.nB := by rw [F.inv.nB]; exact F.pos
theorem Fin.bk (F : Fin B a N t g) (key : ByteArray) : g.T.bk key < B := by have := (bk_eq g.T key F.nB).2; rw [F.inv.nB] at this; exact this
theorem Fin.said (F : Fin B a N t g) {k : Nat} (hk : k < N) : Said g.T g.C (g.q k) (g.q k).puts (a (g.x k)).ref0 (g.D k) ∧ g.D k <:+ g.C (g.T.bk (g.q k).key) := F.inv.done k (by rw [F.n]; exact hk) (F.over k hk)
/-- An entry that is in was put in. -/
theorem Fin.who (F : Fin B a N t g) {j v : Nat} (hj : j < B) (hv : v ∈ g.C j) : g.wn v < N ∧ putB a g (g.wn v) = true ∧ (a (g.x (g.wn v))).key = ky g.T v ∧ (a (g.x (g.wn v))).ref = (g.T.E (v - 1)).ref := by
  obtain ⟨b1, b2, b3, b4, _, b6⟩ := F.inv.who j hj v hv
  refine ⟨by rw [← F.n]; exact b1, putB_iff.2 ⟨?_, b2, b6⟩, b3, b4⟩
  rw [b3]
  exact (F.inv.tab.bkt j (by rw [F.inv.nB]; exact hj) v hv).2
/-- What was put in is in. -/
theorem Fin.mine (F : Fin B a N t g) {k : Nat} (hk : k < N) (h : putB a g k = true) : ∃ v ∈ g.C (g.T.bk (a (g.x k)).key), g.wn v = k ∧ ky g.T v = (a (g.x k)).key := by
  obtain ⟨h1, h2, h3⟩ := putB_iff.1 h
  obtain ⟨_, e1, e2⟩ := F.key hk
  obtain ⟨v, b1, b2⟩ := F.inv.mine k (by rw [F.n]; exact hk) (F.over k hk) (by rw [e1]; exact h1) (by rw [e2, h2]; rfl) h3
  rw [e1] at b1
  refine ⟨v, b1, b2, ?_⟩
  have := (F.who (F.bk _) b1).2.2.1
  rw [b2] at this
  exact this.symm
theorem Fin.one (F : Fin B a N t g) {j u v : Nat} (hj : j < B) (hu : u ∈ g.C j) (hv : v ∈ g.C j) (e : ky g.T u = ky g.T v) : u = v := by
  have hp := F.inv.tab.keys j (by rw [F.inv.nB]; exact hj)
  have : ∀ l : List Nat, l.Pairwise (fun u v => ky g.T u ≠ ky g.T v) → u ∈ l → v ∈ l → u = v := by
    intro l hl
    induction l with
    | nil => intro h; cases h
    | cons x l ih =>
      rw [List.pairwise_cons] at hl
      intro h1 h2
      rcases List.mem_cons.1 h1 with e1 | h3
      · rcases List.mem_cons.1 h2 with e2 | h4
        · rw [e1, e2]
        · exact absurd e (by rw [e1]; exact hl.1 v h4)
      · rcases List.mem_cons.1 h2 with e2 | h4
        · exact absurd e.symm (by rw [e2]; exact hl.1 u h3)
        · exact ih hl.2 h3 h4
  exact this _ hp hu hv
/-- Of all that ask for a key just one puts it in. -/
theorem Fin.uniq (F : Fin B a N t g) {k l : Nat} (hk : k < N) (hl : l < N) (h1 : putB a g k = true) (h2 : putB a g l = true) (e : (a (g.x k)).key = (a (g.x l)).key) : k = l := by
  obtain ⟨v, v1, v2, v3⟩ := F.mine hk h1
  obtain ⟨u, u1, u2, u3⟩ := F.mine hl h2
  rw [← e] at u1
  have := F.one (F.bk _) v1 u1 (by rw [v3, u3, e])
  rw [← v2, ← u2, this]

/-- What an operation was told. -/
theorem Fin.told (F : Fin B a N t g) {k : Nat} (hk : k < N) : (g.q k).next = 4 ∧ ((keyB (a (g.x k)).key = false ∧ (g.q k).code = 90) ∨
    (keyB (a (g.x k)).key = true ∧ (g.q k).code = 0 ∧
      (((∀ l, l < N → putB a g l = true → (a (g.x l)).key ≠ (a (g.x k)).key) → (a (g.x k)).look = true ∧ (g.q k).had = false ∧ (g.q k).ref = 0) ∧
       (∀ l, l < N → putB a g l = true → (a (g.x l)).key = (a (g.x k)).key → ((g.q k).had = true ∨ (a (g.x k)).look = false) → (g.q k).ref = (a (g.x l)).ref) ∧
       ((g.q k).had = false → ∀ l, l < N → (a (g.x l)).key = (a (g.x k)).key → ((a (g.x l)).look = false ∨ (g.q l).had = true) → ¬ g.en l < g.bg k) ∧
       ((g.q k).had = true → ∃ l, l < N ∧ (a (g.x l)).look = false ∧ (a (g.x l)).key = (a (g.x k)).key ∧ g.bg l ≤ g.en k)))) := by
  obtain ⟨_, e1, e2⟩ := F.key hk
  obtain ⟨⟨h4, hs⟩, hD⟩ := F.said hk
  refine ⟨h4, ?_⟩
  have hkn : k < g.n := by rw [F.n]; exact hk
  have notD : keyB (a (g.x k)).key = true → (∀ u ∈ g.D k, ky g.T u ≠ (g.q k).key) → ∀ l, l < N → (a (g.x l)).key = (a (g.x k)).key → ((a (g.x l)).look = false ∨ (g.q l).had = true) → ¬ g.en l < g.bg k := fun hkb hno l hl el hh hlt => by
    obtain ⟨_, f1, f2⟩ := F.key hl
    obtain ⟨u, hu, eu⟩ := F.inv.seen l k (by rw [F.n]; exact hl) hkn ⟨F.over l hl, by rw [el]; exact hkb, hh⟩ hlt (by rw [e1, f1, el])
    exact hno u hu eu
  rcases hs with ⟨b1, b2, _⟩ | ⟨b1, b2, hs⟩
  · exact .inl ⟨by rw [← e1]; exact b1, b2⟩
  · refine .inr ⟨by rw [← e1]; exact b1, b2, ?_⟩
    have hkb : keyB (a (g.x k)).key = true := by rw [← e1]; exact b1
    rcases hs with ⟨c1, v, c2, c3, c4⟩ | ⟨c1, c2, c3, c4⟩ | ⟨c1, c2, c3, ⟨v, c4, c5, c6⟩, c7⟩
    · obtain ⟨w1, w2, w3, w4⟩ := F.who (F.bk _) c2
      refine ⟨fun h => ?_, fun l hl hp he _ => ?_, fun h => by rw [c1] at h; (cases h), fun _ => ?_⟩
      · exact absurd (w3.trans (c3.trans e1)) (h _ w1 w2)
      · have := F.uniq hl w1 hp w2 (by rw [he, w3, c3, e1])
        rw [this, w4, c4]
      · obtain ⟨l, l1, l2, l3, l4⟩ := F.inv.met k hkn (F.over k hk) c1
        exact ⟨l, by rw [← F.n]; exact l1, l2, by rw [l3, e1], l4⟩
    · have hlk : (a (g.x k)).look = true := by rw [e2] at c2; simpa using c2
      refine ⟨fun _ => ⟨hlk, c1, c3⟩, fun l hl hp he h => ?_, fun _ => notD hkb c4, fun h => by rw [c1] at h; (cases h)⟩
      rcases h with h | h
      · rw [c1] at h; cases h
      · rw [hlk] at h; cases h
    · have hlk : (a (g.x k)).look = false := by rw [e2] at c2; simpa using c2
      have hpk : putB a g k = true := putB_iff.2 ⟨hkb, hlk, c1⟩
      refine ⟨fun h => absurd rfl (h k hk hpk), fun l hl hp he _ => ?_, fun _ => notD hkb c7, fun h => by rw [c1] at h; (cases h)⟩
      have := F.uniq hl hk hp hpk he
      rw [this, c3]
      unfold HAsk.ref0
      rw [if_neg (by rw [hlk]; simp)]

/-- Lists without doubles that hold the same. -/
theorem len_le {α : Type} [DecidableEq α] : ∀ (l m : List α), l.Nodup → (∀ x ∈ l, x ∈ m) → l.length ≤ m.length
  | [], m, _, _ => Nat.zero_le _
  | x :: l, m, h, hs => by
    rw [List.nodup_cons] at h
    have hx := hs x (by simp)
    have h2 := len_le l (m.erase x) h.2 fun y hy => by
      have : y ≠ x := fun e => h.1 (e ▸ hy)
      exact (List.mem_erase_of_ne this).2 (hs y (by simp [hy]))
    rw [List.length_erase_of_mem hx] at h2
    have := List.length_pos_of_mem hx
    simp only [List.length_cons]
    omega

theorem Fin.keysNodup (F : Fin B a N t g) : (keysL g.T g.C B).Nodup := by
  have : ∀ i, i ≤ B → (keysL g.T g.C i).Nodup ∧ ∀ k ∈ keysL g.T g.C i, g.T.bk k < i := by
    intro i
    induction i with
    | zero => intro _; exact ⟨List.nodup_nil, fun k hk => by cases hk⟩
    | succ i ih =>
      intro hi
      obtain ⟨h1, h2⟩ := ih (by omega)
      have hiB : i < g.T.nB := by rw [F.inv.nB]; omega
      rw [keysL_succ]
      refine ⟨?_, fun k hk => ?_⟩
      · rw [List.nodup_append]
        refine ⟨h1, ?_, fun k hk l hl e => ?_⟩
        · have := F.inv.tab.keys i hiB
          exact List.pairwise_map.2 this
        · subst e
          obtain ⟨v, hv, rfl⟩ := List.mem_map.1 hl
          have := (F.inv.tab.bkt i hiB v hv).1
          have := h2 _ hk
          omega
      · rcases List.mem_append.1 hk with h | h
        · have := h2 k h; omega
        · obtain ⟨v, hv, rfl⟩ := List.mem_map.1 h
          have := (F.inv.tab.bkt i hiB v hv).1
          omega
  exact (this B (Nat.le_refl _)).1
theorem memKeys {k : ByteArray} : k ∈ keysL g.T g.C B ↔ ∃ j, j < B ∧ ∃ v ∈ g.C j, ky g.T v = k := by
  unfold keysL
  simp only [List.mem_flatMap, List.mem_range, List.mem_map]
theorem Fin.count (F : Fin B a N t g) : (keysL g.T g.C B).length = (puts a g N).length := by
  have e : ((puts a g N).map fun k => (a (g.x k)).key).length = (puts a g N).length := List.length_map _
  rw [← e]
  have hnd : ((puts a g N).map fun k => (a (g.x k)).key).Nodup := by
    have : (puts a g N).Nodup := List.Pairwise.filter _ List.nodup_range
    refine List.pairwise_map.2 (List.Pairwise.imp_of_mem (fun {k l} hk hl hkl e => ?_) this)
    rw [mem_puts] at hk hl
    exact hkl (F.uniq hk.1 hl.1 hk.2 hl.2 e)
  refine Nat.le_antisymm (len_le _ _ F.keysNodup fun k hk => ?_) (len_le _ _ hnd fun k hk => ?_)
  · obtain ⟨j, hj, v, hv, rfl⟩ := memKeys.1 hk
    obtain ⟨w1, w2, w3, _⟩ := F.who hj hv
    exact List.mem_map.2 ⟨g.wn v, mem_puts.2 ⟨w1, w2⟩, w3⟩
  · obtain ⟨l, hl, rfl⟩ := List.mem_map.1 hk
    rw [mem_puts] at hl
    obtain ⟨v, v1, _, v3⟩ := F.mine hl.1 hl.2
    exact memKeys.2 ⟨_, F.bk _, v, v1, v3⟩
theorem Fin.inPuts (F : Fin B a N t g) {k : ByteArray} (hk : k ∈ keysL g.T g.C B) : ∃ l ∈ puts a g N, (a (g.x l)).key = k := by
  obtain ⟨j, hj, v, hv, rfl⟩ := memKeys.1 hk
  obtain ⟨w1, w2, w3, _⟩ := F.who hj hv
  exact ⟨g.wn v, mem_puts.2 ⟨w1, w2⟩, w3⟩

/-- Texts in order, none twice. -/
theorem sortK_rise {l : List ByteArray} (h : l.Nodup) (i : Nat) (hi : i + 1 < l.length) : byt ((sortK l).getD i ⟨#[]⟩) < byt ((sortK l).getD (i + 1) ⟨#[]⟩) := by
  have hs : ((l.map byt).mergeSort fun x y => decide (x ≤ y)).Pairwise fun x y => x ≤ y := by
    have := List.pairwise_mergeSort (le := fun (x y : List UInt8) => decide (x ≤ y)) (fun a b c h1 h2 => by
      simp only [decide_eq_true_eq] at h1 h2 ⊢
      exact List.le_trans h1 h2) (fun a b => by
      simp only [Bool.or_eq_true, decide_eq_true_eq]
      exact List.le_total a b) (l.map byt)
    exact this.imp fun h => by simpa using h
  have hn : ((l.map byt).mergeSort fun x y => decide (x ≤ y)).Nodup := by
    refine (List.mergeSort_perm _ _).nodup_iff.2 ?_
    refine List.pairwise_map.2 (h.imp fun hne e => hne ?_)
    have := congrArg unbyt e
    exact this
  have hlen : ((l.map byt).mergeSort fun x y => decide (x ≤ y)).length = l.length := by simp
  have e : ∀ j, j < l.length → byt ((sortK l).getD j ⟨#[]⟩) = ((l.map byt).mergeSort fun x y => decide (x ≤ y)).getD j [] := fun j hj => by
    unfold sortK
    rw [List.getD_eq_getElem?_getD, List.getElem?_map, List.getD_eq_getElem?_getD, List.getElem?_eq_getElem (by rw [hlen]; exact hj)]
    rfl
  rw [e i (by omega), e (i + 1) hi]
  generalize (l.map byt).mergeSort (fun x y => decide (x ≤ y)) = m at *
  rw [List.getD_eq_getElem?_getD, List.getElem?_eq_getElem (by omega), List.getD_eq_getElem?_getD, List.getElem?_eq_getElem (by omega)]
  show m[i] < m[i + 1]
  have h1 := List.pairwise_iff_getElem.1 hs i (i + 1) (by omega) (by omega) (by omega)
  have h2 := List.pairwise_iff_getElem.1 hn i (i + 1) (by omega) (by omega) (by omega)
  rcases Decidable.em (m[i] < m[i + 1]) with h3 | h3
  · exact h3
  · exact absurd (List.le_antisymm h1 (List.not_lt.1 h3)) h2
end Go.Proofs.YtmldighidbfhhaaDoor
namespace Go.Proofs.YtmldighidbfhhaaDoor
open Go Go.RowKit
set_option linter.unusedVariables false

variable {o : List Nat} {w0 w w' : World} {b m ga gn : Nat} {R : Part} {lv iv : Value} {obs : Nat → Nat} {g : Tg} {a y : Nat → HAsk} {N : Nat}

def askF (y : Nat → HAsk) (i : Nat) : List Value := [.int .i64 (y i).wk, .bool (y i).look, .string (y i).key, .int .i64 (y i).ref]
theorem askF_len (y : Nat → HAsk) (i : Nat) : (askF y i).length = 4 := rfl
/-- Asks that a slice owns. -/
noncomputable def Part.asks (v : Value) (m : Nat) (y : Nat → HAsk) : Part := .rows 41 4 v m (askF y)

theorem asks_slice (h : Has o w0 w (R.sep (.asks iv m y))) : ∃ p c, iv = .slice p m c := by
  obtain ⟨o1, h1, _⟩ := h.right
  exact h1.rowsSlice
theorem asks_read {p : Option Addr} {c : Nat} (h : Has o w0 w (R.sep (.asks (.slice p m c) m y))) (hr : ∀ i, i < m → -9223372036854775808 ≤ (y i).wk ∧ (y i).wk < 9223372036854775808) : AskIn w p m y := by
  intro h0
  obtain ⟨o1, h1, _⟩ := h.right
  obtain ⟨g, cap, e, _⟩ := h1.rowsAt (askF_len y) h0
  simp only [Value.slice.injEq] at e
  obtain ⟨rfl, _, rfl⟩ := e
  refine ⟨g, 0, rfl, fun i hi => ?_⟩
  obtain ⟨g2, cap2, e2, hc, _⟩ := h1.rowsAt (askF_len y) hi
  simp only [Value.slice.injEq, Option.some.injEq, Addr.mk.injEq] at e2
  obtain ⟨⟨rfl, _⟩, _⟩ := e2
  rw [Nat.zero_add]
  exact ⟨hc 0 _ rfl, hc 1 _ rfl, hc 2 _ rfl, hc 3 _ rfl, hr i hi⟩

/-- The cells of a row. -/
theorem ta_row (h : Has o w0 w ((Part.tog b lv ga gn obs a g).sep R)) {k : Nat} (hk : k < g.n) :
    ∃ gl cap, lv = .slice (some ⟨gl, 0, none⟩) g.n cap ∧ (∀ j u, (undF a obs g k)[j]? = some u → w.cell? ⟨gl, k * 7 + j, none⟩ = some u) ∧ g.n ≤ maxLen := by
  obtain ⟨o1, h1, _⟩ := h.left
  exact tog_row h1 hk
theorem ta_ref (h : Has o w0 w ((Part.tog b lv ga gn obs a g).sep R)) {k : Nat} (hk : k < g.n) (h4 : (g.q k).next = 4) :
    Calls Tryd.prog 13 #[.pointer (some ⟨obs k, 0, none⟩)] w fun e w' => e = .returned (.tuple #[.int .i64 (g.q k).ref, .bool (g.q k).had, .int .i64 (g.q k).code]) ∧ Has o w0 w' ((Part.tog b lv ga gn obs a g).sep R) := by
  obtain ⟨o1, h1, _, _, b1⟩ := h.left
  refine (tog_ref h1 hk h4).mono ?_
  rintro e w' ⟨rfl, h'⟩
  exact ⟨rfl, b1 _ _ h'⟩

set_option maxHeartbeats 8000000 in
set_option maxRecDepth 100000 in
theorem fits_walk {B : Nat} {t : Int} {iw : Option Addr} {ic : Nat} {lp : Option Addr} {lc : Nat} (hX : Has o w0 w ((Part.tog b (.slice lp N lc) ga gn obs a g).sep (.asks (.slice iw m ic) m y))) (F : Fin B a N t g) (hm : m ≤ 1000) (hr : ∀ i, i < m → -9223372036854775808 ≤ (y i).wk ∧ (y i).wk < 9223372036854775808)
    (hy : ∀ j, j < m → ∃ l, l < N ∧ putB a g l = true ∧ y j = a (g.x l)) (hin : ∀ l, l < N → putB a g l = true → ∃ j, j < m ∧ y j = a (g.x l)) {i : Nat} (hi : i < N) (P : Nat) (hP : P ≤ 10000) :
    Calls Tryd.prog 15 #[.slice lp N lc, .int .i64 i, .slice iw m ic, .int .i64 P] w fun e w' => e = .returned (.bool true) ∧ Has o w0 w' ((Part.tog b (.slice lp N lc) ga gn obs a g).sep (.asks (.slice iw m ic) m y)) := by
  have hn : g.n = N := F.n
  obtain ⟨h4, htold⟩ := F.told hi
  obtain ⟨gl, cap, he, hc, hmx⟩ := ta_row hX (k := i) (by rw [hn]; exact hi)
  rw [hn] at he hmx
  obtain ⟨rfl, rfl⟩ : lp = some ⟨gl, 0, none⟩ ∧ lc = cap := by simpa using he
  have c4 := hc 4 _ rfl
  have HX := Lib.hid hX
  have HRF := Lib.hid (ta_ref hX (k := i) (by rw [hn]; exact hi) h4)
  have q1 : 0 ≤ (i : Int) ∧ (i : Int) < (N : Int) := by omega
  have hN9 : N ≤ 9223372036854775807 := Nat.le_trans hmx (by decide)
  have HT := Lib.hid htold
  have HF := Lib.hid F
  have HHY := Lib.hid hy
  have HIN := Lib.hid hin
  have HR := Lib.hid hr
  have HN := Lib.hid hn
  have HI := Lib.hid hi
  clear hX he hc hmx htold F hy hin hr hn hi h4
  rcases HT.out with ⟨hk0, hcode⟩ | ⟨hk0, hcode, hT1, hT2, hT3, hT4⟩
  · have e1 : ((g.q i).code != 0) = true := by rw [hcode]; decide
    have e1' : decide ((g.q i).code = 0) = false := by rw [hcode]; decide
    clear hk0
    go_enter Tryd.func15, Tryd.ntmps15
    go_wp2_with fail
    refine HRF.out.mono ?_
    rintro e w2 ⟨rfl, hX2⟩
    have HX2 := Lib.hid hX2
    rw [hcode]
    clear hX2 HX HRF c4 hcode e1 e1'
    go_wp2_with fail
    go_ret
    exact ⟨rfl, HX2.out⟩
  · rw [hcode] at HRF
    have HT1 := Lib.hid hT1
    have HT2 := Lib.hid hT2
    have HT3 := Lib.hid hT3
    have HT4 := Lib.hid hT4
    have HK0 := Lib.hid hk0
    clear hT1 hT2 hT3 hT4 hcode hk0
    obtain ⟨rf, hrf⟩ : ∃ rf, (g.q i).ref = rf := ⟨_, rfl⟩
    obtain ⟨hd9, hhd⟩ : ∃ hd9, (g.q i).had = hd9 := ⟨_, rfl⟩
    rw [hrf, hhd] at HRF
    have HRFV := Lib.hid hrf
    have HHAD := Lib.hid hhd
    clear hrf hhd
    go_enter Tryd.func15, Tryd.ntmps15
    go_wp2_with fail
    refine HRF.out.mono ?_
    rintro e w2 ⟨rfl, hX2⟩
    obtain ⟨gl2, cap2, he2, hc2, _⟩ := ta_row hX2 (k := i) (by rw [HN.out]; exact HI.out)
    obtain ⟨rfl, hNn, rfl⟩ : gl = gl2 ∧ N = g.n ∧ lc = cap2 := by simpa using he2
    clear hNn
    have d2 := hc2 2 _ rfl
    have HFD := Lib.hid (find_walk w2 iw m ic y (a (g.x i)).key (asks_read hX2 HR.out) (by omega))
    have HX2 := Lib.hid hX2
    clear hX2 HX HRF c4 he2
    go_wp2_with fail
    refine HFD.out.mono ?_
    rintro e w3 ⟨r, rfl, rfl, hfd⟩
    have d1 := hc2 1 _ rfl
    have HC2 := Lib.hid hc2
    clear HFD hc2
    rcases hfd with ⟨rfl, hno⟩ | ⟨j, hj, rfl, hje⟩
    · obtain ⟨k1, k2, k3⟩ := HT1.out fun l hl hp e => by
        obtain ⟨j, hj, ej⟩ := HIN.out l hl hp
        exact hno j hj (by rw [ej, e])
      have e1 : (a (g.x i)).look = true := k1
      obtain rfl : hd9 = false := by rw [← HHAD.out]; exact k2
      obtain rfl : rf = 0 := by rw [← HRFV.out]; exact k3
      rw [e1] at d1
      clear k1 k2 k3 hno e1
      go_wp2_with fail
      go_ret
      exact ⟨rfl, HX2.out⟩
    · obtain ⟨l, hl, hp, hyl⟩ := HHY.out j hj
      have hje' : (a (g.x l)).key = (a (g.x i)).key := by rw [← hyl]; exact hje
      have HEQ := Lib.hid (fun (h : hd9 = true ∨ (a (g.x i)).look = false) => show rf = (y j).ref from by
        rw [hyl, ← HRFV.out]
        exact HT2.out l hl hp hje' (by rw [HHAD.out]; exact h))
      obtain ⟨gj, oj, rfl, hcj⟩ := (asks_read HX2.out HR.out) (by omega)
      obtain ⟨_, _, _, d3, _⟩ := hcj j hj
      have q2 : 0 ≤ (j : Int) ∧ (j : Int) < (m : Int) := by omega
      have d9 : decide ((j : Int) < 0) = false := by simp
      clear hje hje' hcj hp hyl hl hj HT1 HT2 HHY HIN HT HRFV
      go_upto_region 7 with fail
      go_cut [74] from 20 (fun s74 wx => s74 = .bool false ∧ wx = w3)
      case first =>
        obtain ⟨rj, hrj⟩ : ∃ rj, (y j).ref = rj := ⟨_, rfl⟩
        obtain ⟨lk, hlk⟩ : ∃ lk, (a (g.x i)).look = lk := ⟨_, rfl⟩
        rw [hlk] at d1
        rw [hrj] at d3
        have hEQ := HEQ.out
        rw [hlk, hrj] at hEQ
        clear HEQ hlk hrj
        cases hd9 with
        | true =>
          obtain rfl := hEQ (.inl rfl)
          have e1 : (rf != rf) = false := by simp
          clear hEQ
          go_wp2_with fail
          go_meet
          exact ⟨rfl, rfl⟩
        | false =>
          cases lk with
          | true =>
            clear hEQ
            go_wp2_with fail
            go_meet
            exact ⟨rfl, rfl⟩
          | false =>
            obtain rfl := hEQ (.inr rfl)
            have e1 : (rf != rf) = false := by simp
            clear hEQ
            go_wp2_with fail
            go_meet
            exact ⟨rfl, rfl⟩
      case rest =>
        obtain ⟨rfl, rfl⟩ := hcut
        clear HEQ d3 q2 d9 d1 d2
        go_wp2_with fail
        go_loopg [13, 14] N (fun k fv iv wr => ∃ (c : Nat) (f : Int), c ≤ N ∧ k = N - c ∧ fv = .int .i64 f ∧ iv = .int .i64 c ∧ (∀ l, l < c → (a (g.x l)).key = (a (g.x i)).key → (a (g.x l)).look = false → f ≤ g.bg l) ∧ Has o w0 wr ((Part.tog b (.slice (some ⟨gl, 0, none⟩) N lc) ga gn obs a g).sep (.asks (.slice (some ⟨gj, oj, none⟩) m ic) m y)))
        case atStart => exact ⟨0, _, Nat.zero_le _, rfl, rfl, rfl, fun l hl => absurd hl (Nat.not_lt_zero _), HX2.out⟩
        case round =>
          clear HX2 HC2
          obtain ⟨c, f, hcN, hk, rfl, rfl, hmin, hX⟩ := hrel
          obtain ⟨gl3, cap3, he3, hci, _⟩ := ta_row hX (k := i) (by rw [HN.out]; exact HI.out)
          obtain ⟨rfl, hNn, rfl⟩ : gl = gl3 ∧ N = g.n ∧ lc = cap3 := by simpa using he3
          clear hNn he3
          have HX := Lib.hid hX
          have HK := Lib.hid hk
          have HMIN := Lib.hid hmin
          have HCI := Lib.hid hci
          have i2 := hci 2 _ rfl
          clear hX hk hmin hci
          by_cases hlt : c < N
          · have f1 : decide ((c : Int) < (N : Int)) = true := by simp; omega
            have f1' : decide (c < N) = true := by simpa using hlt
            have q3 : 0 ≤ (c : Int) ∧ (c : Int) < (N : Int) := by omega
            obtain ⟨gl4, cap4, he4, hcc, _⟩ := ta_row HX.out (k := c) (by rw [HN.out]; exact hlt)
            obtain ⟨rfl, hNn, rfl⟩ : gl = gl4 ∧ N = g.n ∧ lc = cap4 := by simpa using he4
            clear hNn he4
            have j2 := hcc 2 _ rfl
            have j4 := hcc 4 _ rfl
            obtain ⟨h4c, _⟩ := HF.out.told hlt
            have HRC := Lib.hid (ta_ref (HX.out.quiet ((Kept.refl _ _).drew)) (k := c) (by rw [HN.out]; exact hlt) h4c)
            have HLT := Lib.hid hlt
            obtain ⟨hdc, hhdc⟩ : ∃ hdc, (g.q c).had = hdc := ⟨_, rfl⟩
            rw [hhdc] at HRC
            have HHDC := Lib.hid hhdc
            clear hhdc
            obtain ⟨sm, hsm⟩ : ∃ sm : Bool, ((a (g.x c)).key.toList == (a (g.x i)).key.toList) = sm := ⟨_, rfl⟩
            have HSM := Lib.hid hsm
            clear hcc h4c hlt
            go_wp2_with fail
            go_region
            go_wp2_with fail
            refine HRC.out.mono ?_
            rintro e w5 ⟨rfl, hX5⟩
            obtain ⟨lkc, hlkc⟩ : ∃ lkc, (a (g.x c)).look = lkc := ⟨_, rfl⟩
            obtain ⟨hB, hhB⟩ : ∃ hB, (!lkc || hdc) = hB := ⟨_, rfl⟩
            obtain ⟨gl5, cap5, he5, hc5, _⟩ := ta_row hX5 (k := c) (by rw [HN.out]; exact HLT.out)
            obtain ⟨rfl, hNn, rfl⟩ : gl = gl5 ∧ N = g.n ∧ lc = cap5 := by simpa using he5
            clear hNn he5
            have HC5 := Lib.hid hc5
            have j1 := hc5 1 _ rfl
            rw [hlkc] at j1
            have HX5 := Lib.hid hX5
            have HHB := Lib.hid hhB
            have HLK := Lib.hid hlkc
            clear hX5 HX HRC hc5 i2 j2 j4 hsm HCI hhB hlkc
            go_upto_region 15 with fail
            go_cut [19] from 77 to 153 (fun s19 wx => s19 = .bool hB ∧ wx = w5)
            case first =>
              have hhB := HHB.out
              cases lkc <;> cases hdc <;> (
                simp only [Bool.not_false, Bool.not_true, Bool.or_self, Bool.or_true, Bool.or_false] at hhB
                subst hhB
                go_wp2_with fail
                go_meet
                exact ⟨rfl, rfl⟩)
            case rest =>
              obtain ⟨rfl, rfl⟩ := hcut
              clear j1
              go_upto_region 16 with fail
              go_cut [136] from 77 to 153 (fun s136 wx => s136 = .bool false ∧ ∃ nq, wx = wc.drewN nq)
              case first =>
                have j6 := HC5.out 6 _ rfl
                obtain ⟨gl6, cap6, he6, hc6, _⟩ := ta_row HX5.out (k := i) (by rw [HN.out]; exact HI.out)
                obtain ⟨rfl, hNn, rfl⟩ : gl = gl6 ∧ N = g.n ∧ lc = cap6 := by simpa using he6
                have i5 := hc6 5 _ rfl
                clear hNn he6 hc6 HC5
                cases sm with
                | false =>
                  go_quiet (fail)
                  go_wp2_with fail
                  go_meet
                  exact ⟨rfl, _, rfl⟩
                | true =>
                  cases hB with
                  | false =>
                    go_quiet (fail)
                    go_wp2_with fail
                    go_meet
                    exact ⟨rfl, _, rfl⟩
                  | true =>
                    by_cases hle : g.en c < g.bg i
                    · have g1 : decide (g.en c < g.bg i) = true := decide_eq_true hle
                      cases hd9 with
                      | true =>
                        clear hle
                        go_quiet (fail)
                        go_wp2_with fail
                        go_meet
                        exact ⟨rfl, _, rfl⟩
                      | false =>
                        exfalso
                        have no : ∀ x y : Int, x < y → ¬ y ≤ x := fun x y h => by omega
                        refine no _ _ hle (HT3.out HHAD.out c HLT.out ?_ ?_)
                        · have h9 := HSM.out
                          rw [beq_iff_eq, ByteArray.toList_eq, ByteArray.toList_eq] at h9
                          exact Go.WideShapes.bytes_inj h9
                        · have h9 := HHB.out
                          rw [HLK.out, HHDC.out]
                          cases lkc with
                          | false => exact .inl rfl
                          | true => exact .inr (by simpa using h9)
                    · have g1 : decide (g.en c < g.bg i) = false := decide_eq_false hle
                      clear hle
                      go_quiet (fail)
                      go_wp2_with fail
                      go_meet
                      exact ⟨rfl, _, rfl⟩
              case rest =>
                obtain ⟨rfl, nq, rfl⟩ := hcut
                have hX7 := HX5.out.quiet ((Kept.refl [] wc).drewN nq)
                generalize wc.drewN nq = w7 at *
                obtain ⟨gl7, cap7, he7, hc7, _⟩ := ta_row hX7 (k := c) (by rw [HN.out]; exact HLT.out)
                obtain ⟨rfl, hNn, rfl⟩ : gl = gl7 ∧ N = g.n ∧ lc = cap7 := by simpa using he7
                have j1 := hc7 1 _ rfl
                have j5 := hc7 5 _ rfl
                rw [HLK.out] at j1
                have HX7 := Lib.hid hX7
                clear hNn he7 hc7 hX7 HX5 HC5
                have HEND := Lib.hid (fun (f' : Int) (h1 : f' ≤ f) (h2 : sm = true → lkc = false → f' ≤ g.bg c) => show ∀ l, l < c + 1 → (a (g.x l)).key = (a (g.x i)).key → (a (g.x l)).look = false → f' ≤ g.bg l from fun l hl he hk => by
                  by_cases e : l = c
                  · subst e
                    refine h2 ?_ ?_
                    · rw [← HSM.out, he]; simp
                    · rw [← HLK.out]; exact hk
                  · exact Int.le_trans h1 (HMIN.out l (by omega) he hk))
                cases sm with
                | false =>
                  go_wp2_with fail
                  go_roundg (N - (c + 1))
                  case measure => rw [HK.out]; have := HLT.out; omega
                  case rel => exact ⟨c + 1, f, HLT.out, rfl, rfl, by go_num, HEND.out f (Int.le_refl _) (fun h => by cases h), HX7.out⟩
                | true =>
                  cases lkc with
                  | true =>
                    go_wp2_with fail
                    go_roundg (N - (c + 1))
                    case measure => rw [HK.out]; have := HLT.out; omega
                    case rel => exact ⟨c + 1, f, HLT.out, rfl, rfl, by go_num, HEND.out f (Int.le_refl _) (fun _ h => by cases h), HX7.out⟩
                  | false =>
                    go_wp2_with fail
                    go_roundg (N - (c + 1))
                    case measure => rw [HK.out]; have := HLT.out; omega
                    case rel => exact ⟨c + 1, min f (g.bg c), HLT.out, rfl, rfl, by go_num, HEND.out _ (Int.min_le_left _ _) (fun _ _ => Int.min_le_right _ _), HX7.out⟩
          · obtain rfl : c = N := by omega
            have f1 : decide ((c : Int) < (c : Int)) = false := by simp
            have f1' : decide (c < c) = false := by simp
            clear hlt
            have i3 := HCI.out 6 _ rfl
            cases hd9 with
            | false =>
              go_wp2_with fail
              go_ret
              exact ⟨rfl, HX.out⟩
            | true =>
              obtain ⟨l, l1, l2, l3, l4⟩ := HT4.out HHAD.out
              have hle := HMIN.out l l1 l3 l2
              have g1 : decide (f ≤ g.en i) = true := decide_eq_true (by omega)
              clear l1 l2 l3 l4 hle
              go_wp2_with fail
              go_ret
              exact ⟨rfl, HX.out⟩
end Go.Proofs.YtmldighidbfhhaaDoor
