/- The walk of HashTogether: true at all numbers, asks and picks, and nothing that was there has changed.
A lookup that is stepped until it is done, over a table that stands.
The walk of HashHolds: true at all numbers, asks and picks, and nothing that was there has changed. -/
import Derived.Test.YtmldighidbfhhaaDoorMHol8
import Derived.Test.YtmldighidbfhhaaDoorMHol9
namespace Go.Proofs.YtmldighidbfhhaaDoor
open Go Go.RowKit
set_option linter.unusedVariables false

variable {w0 w : World} {b B : Nat} {a : Nat → HAsk} {N : Nat} {g : Tg} {lv : Value} {ga gn : Nat} {obs : Nat → Nat} {R : Part}

/-- The asks that have put in, of the first operations. -/
def inY (a : Nat → HAsk) (g : Tg) (i k : Nat) : HAsk := a (g.x ((puts a g i).getD k 0))
theorem inY_mem {i k : Nat} (h : k < (puts a g i).length) : ∃ l, l < i ∧ putB a g l = true ∧ inY a g i k = a (g.x l) := by
  refine ⟨(puts a g i)[k], ?_, ?_, ?_⟩
  · exact (mem_puts.1 (List.getElem_mem h)).1
  · exact (mem_puts.1 (List.getElem_mem h)).2
  · unfold inY; rw [List.getD_eq_getElem?_getD, List.getElem?_eq_getElem h]; rfl
theorem mem_inY {i l : Nat} (h : l < i) (hp : putB a g l = true) : ∃ k, k < (puts a g i).length ∧ inY a g i k = a (g.x l) := by
  obtain ⟨k, hk, e⟩ := List.getElem_of_mem (mem_puts.2 ⟨h, hp⟩)
  refine ⟨k, hk, ?_⟩
  unfold inY; rw [List.getD_eq_getElem?_getD, List.getElem?_eq_getElem hk, Option.getD_some, e]
theorem inY_more (i : Nat) (h : putB a g i = true) (d : Nat) (hd : d < (puts a g i).length + 1) : (if d = (puts a g i).length then askF (fun _ => a (g.x i)) 0 else askF (inY a g i) d) = askF (inY a g (i + 1)) d := by
  have e : inY a g (i + 1) d = if d = (puts a g i).length then a (g.x i) else inY a g i d := by
    unfold inY
    rw [puts_succ, if_pos h, List.getD_eq_getElem?_getD, List.getElem?_append]
    by_cases e : d = (puts a g i).length
    · subst e
      rw [if_neg (Nat.lt_irrefl _), if_pos rfl, Nat.sub_self]; rfl
    · rw [if_pos (by omega), if_neg e, List.getD_eq_getElem?_getD]
  unfold askF
  rw [e]
  by_cases e : d = (puts a g i).length
  · rw [if_pos e, if_pos e]
  · rw [if_neg e, if_neg e]

/-- The table out of all, for a walk of its own. -/
theorem ta_table {o : List Nat} (h : Has o w0 w ((Part.tog b lv ga gn obs a g).sep R)) : ∃ o', Has o' w w (.table b g.T) ∧ ∀ w' A, Has o' w w' A → Has o w0 w' ((Part.tg (A.sep (.all g.n fun j => .hop (obs j) (some ⟨b, 0, none⟩) (g.q j))) lv g.n (undF a obs g) ga gn (posF g) (nowF g)).sep R) := by
  obtain ⟨o1, h1, _, _, b1⟩ := h.left
  obtain ⟨o2, h2, _, b2⟩ := tg_ops h1
  obtain ⟨o3, h3, _, _, b3⟩ := Has.left h2
  exact ⟨o3, h3, fun w' A hA => b1 _ _ (b2 _ _ (b3 _ _ hA))⟩

theorem strs_read {o : List Nat} {p : Option Addr} {c : Nat} {l : List ByteArray} (h : Has o w0 w (R.sep (.strs (.slice p l.length c) l))) : StrIn w p l.length (fun i => l.getD i ⟨#[]⟩) := by
  intro h0
  have hr := strs_row h
  rcases row_val hr with ⟨_, h1⟩ | ⟨g, cap, e, _⟩
  · omega
  obtain ⟨o1, h1, _⟩ := h.right
  simp only [Value.slice.injEq] at e
  obtain ⟨rfl, _, rfl⟩ := e
  refine ⟨g, 0, rfl, fun i hi => ?_⟩
  have h2 : Has o1 w w (.row 9 1 (.slice (some ⟨g, 0, none⟩) l.length c) l.length (l.map Value.string)) := h1
  obtain ⟨c1, _⟩ := Has.rowCell h2 i (.string (l.getD i ⟨#[]⟩)) (by rw [List.getElem?_map, List.getD_eq_getElem?_getD, List.getElem?_eq_getElem hi]; rfl)
  rw [Nat.zero_add]; exact c1

/-- Where a slice is cut at a number. -/
theorem cut_asks {p : Option Addr} {n m : Nat} (h : AskIn w p n a) (hm : m ≤ n) : AskIn w p m a := by
  intro h0
  obtain ⟨g, off, e, hc⟩ := h (by omega)
  exact ⟨g, off, e, fun i hi => hc i (by omega)⟩
theorem cut_nums {p : Option Addr} {n m : Nat} {z : Nat → Int} (h : InRow w p n z) (hm : m ≤ n) : InRow w p m z :=
  ⟨fun e => by have := h.1 e; omega, fun h0 => by
    obtain ⟨g, off, e, hb, hc⟩ := h.2 (by omega)
    exact ⟨g, off, e, hb, fun i hi => hc i (by omega)⟩⟩

theorem info_ask : (Tryd.prog.info? 41).map (fun i => (i.zero, i.size, i.bytes)) = some (some (.agg #[.int .i64 0, .bool false, .string ⟨#[]⟩, .int .i64 0]), 4, 40) := by kernel_rfl
theorem asks_more {o : List Nat} {w5 : World} {v v' : Value} {m : Nat} {y : Nat → HAsk} {x : HAsk} (ob : Obj) (h : Has o w0 w (R.sep (.asks v m y))) (happ : Appended (w.alloc ob) w5 41 4 v v' (m + 1) (flatN m (askF y) ++ askF (fun _ => x) 0)) :
    Has o w0 w5 (R.sep (.rows 41 4 v' (m + 1) fun d => if d = m then askF (fun _ => x) 0 else askF y d)) := by
  obtain ⟨o1, h1, _, _, b1⟩ := h.right
  exact b1 _ _ (Has.rowsMore ob h1 happ)
theorem asks_own {o : List Nat} {v : Value} {m : Nat} {y : Nat → HAsk} (h : Has o w0 w (R.sep (.asks v m y))) : w.ownsRow 0 41 4 v m (flatN m (askF y)) := by
  obtain ⟨o1, h1, _⟩ := h.right
  exact h1.rowsOwn

theorem ask_range {p : Option Addr} (h : AskIn w p N a) {j : Nat} (hj : j < N) : -9223372036854775808 ≤ (a j).wk ∧ (a j).wk < 9223372036854775808 := by
  obtain ⟨g, off, _, hc⟩ := h (by omega)
  exact (hc j hj).2.2.2.2
theorem inY_range {p : Option Addr} {t : Int} (h : AskIn w p N a) (F : Fin B a N t g) {i : Nat} (hi : i ≤ N) : ∀ k, k < (puts a g i).length → -9223372036854775808 ≤ (inY a g i k).wk ∧ (inY a g i k).wk < 9223372036854775808 := fun k hk => by
  obtain ⟨l, hl, _, e⟩ := inY_mem hk
  rw [e]
  exact ask_range h (F.key (by omega : l < N)).1
theorem find_none {t : Int} {W : World} {ip : Option Addr} {ic : Nat} {i : Nat} (F : Fin B a N t g) (hi : i < N) (hp : putB a g i = true) (hN : N ≤ 60) (h : AskIn W ip (puts a g i).length (inY a g i)) :
    Calls Tryd.prog 14 #[.slice ip (puts a g i).length ic, .string (a (g.x i)).key] W fun e w' => e = .returned (.int .i64 (-1)) ∧ w' = W := by
  have hl := puts_len a g i
  refine (find_walk W ip _ ic _ _ h (by omega)).mono ?_
  rintro e w' ⟨r, rfl, rfl, ⟨rfl, _⟩ | ⟨j, hj, rfl, hk⟩⟩
  · exact ⟨rfl, rfl⟩
  · obtain ⟨l, hl, hpl, e⟩ := inY_mem hj
    rw [e] at hk
    have := F.uniq (by omega) hi hpl hp hk
    omega
/-- The keys, told in order, ahead of the asks that put in. -/
theorem keys_all {t : Int} {W : World} {lv : Value} {ip : Option Addr} {ic : Nat} (F : Fin B a N t g) (hN : N ≤ 60) (hB2 : B ≤ 256) {pa : Option Addr} (hA : AskIn w pa N a)
    (h : Has [] w W ((Part.tog b lv ga gn obs a g).sep (.asks (.slice ip (puts a g N).length ic) (puts a g N).length (inY a g N)))) :
    Calls Tryd.prog 17 #[.pointer (some ⟨b, 0, none⟩)] W fun e w' => ∃ kp kc, e = .returned (.slice kp (puts a g N).length kc) ∧ StrIn w' kp (puts a g N).length (fun i => (sortK (keysL g.T g.C B)).getD i ⟨#[]⟩) ∧ AskIn w' ip (puts a g N).length (inY a g N) ∧ Kept [] w w' := by
  obtain ⟨o1, h1, b1⟩ := ta_table h
  obtain ⟨r1, r2, r3, _⟩ := F.inv.room hN F.pos hB2
  have hs := F.inv.sumN
  refine (keys_walk h1 F.inv.tab r1 r2 r3 (by rw [F.inv.nB]; omega)).mono ?_
  rintro e w' ⟨lv2, st, rfl, h2⟩
  rw [F.inv.nB] at h2
  have h3 := b1 _ _ h2
  have hlen : (sortK (keysL g.T g.C B)).length = (puts a g N).length := by rw [sortK_len, F.count]
  obtain ⟨kp, kc, e⟩ := strs_slice (strs_row h2)
  subst e
  have h4 := strs_read h2
  rw [hlen] at h4 ⊢
  exact ⟨kp, kc, rfl, h4, asks_read h3 (inY_range hA F (Nat.le_refl _)), h3.keeps⟩
theorem sorted_all {t : Int} {W : World} {ip kp : Option Addr} {ic kc : Nat} (F : Fin B a N t g) (hN : N ≤ 60) (h1 : StrIn W kp (puts a g N).length (fun i => (sortK (keysL g.T g.C B)).getD i ⟨#[]⟩)) (h2 : AskIn W ip (puts a g N).length (inY a g N)) :
    Calls Tryd.prog 16 #[.slice kp (puts a g N).length kc, .slice ip (puts a g N).length ic] W fun e w' => e = .returned (.bool true) ∧ Kept [] W w' := by
  have hl := puts_len a g N
  have hlen : (sortK (keysL g.T g.C B)).length = (puts a g N).length := by rw [sortK_len, F.count]
  refine sorted_walk W kp _ kc _ ip ic _ h1 h2 (by omega) (fun i hi => ?_) fun i hi => ?_
  · have hm : (sortK (keysL g.T g.C B)).getD i ⟨#[]⟩ ∈ keysL g.T g.C B := by
      rw [List.getD_eq_getElem?_getD, List.getElem?_eq_getElem (by rw [hlen]; exact hi), Option.getD_some]
      exact (sortK_perm _).mem_iff.1 (List.getElem_mem _)
    obtain ⟨l, hl, e⟩ := F.inPuts hm
    rw [mem_puts] at hl
    obtain ⟨j, hj, ej⟩ := mem_inY hl.1 hl.2
    exact ⟨j, hj, by rw [ej, e]⟩
  · exact sortK_rise F.keysNodup i (by rw [F.count]; exact hi)

set_option maxHeartbeats 16000000 in
set_option maxRecDepth 100000 in
theorem together_law (hT : TabAt w) (n : Int) {pa pp : Option Addr} {na ca np cp : Nat} {z : Nat → Int} (hA : AskIn w pa na a) (hZ : InRow w pp np z) (ha : na ≤ ca) (ha2 : ca ≤ maxLen) (hp : np ≤ cp) (hp2 : cp ≤ maxLen) :
    Calls Tryd.prog 4 #[.int .i64 n, .slice pa na ca, .slice pp np cp] w fun e w' => e = .returned (.bool true) ∧ Kept [] w w' := by
  have HT := Lib.hid hT
  obtain ⟨N, hNe⟩ : ∃ N, (if 60 < na then 60 else na) = N := ⟨_, rfl⟩
  obtain ⟨P, hPe⟩ : ∃ P, (if 10000 < np then 10000 else np) = P := ⟨_, rfl⟩
  have hN : N ≤ 60 ∧ N ≤ na := by rw [← hNe]; split <;> omega
  have hP : P ≤ 10000 ∧ P ≤ np := by rw [← hPe]; split <;> omega
  have HA := Lib.hid (cut_asks hA hN.2)
  have HZ := Lib.hid (cut_nums hZ hP.2)
  have HA0 := Lib.hid hA
  have HZ0 := Lib.hid hZ
  have HNE := Lib.hid hNe
  have HPE := Lib.hid hPe
  have hx1 : ca ≤ 9223372036854775807 := Nat.le_trans ha2 (by decide)
  have hx2 : cp ≤ 9223372036854775807 := Nat.le_trans hp2 (by decide)
  obtain ⟨hN1, hN2⟩ := hN
  obtain ⟨hP1, hP2⟩ := hP
  clear hT hA hZ hNe hPe
  go_enter Tryd.func4, Tryd.ntmps4
  go_wp2_with fail
  refine (shown_calls w HT.out).mono ?_
  rintro e w1 ⟨rfl, hk⟩
  have HK1 := Lib.hid hk
  clear hk
  go_upto_if 25 with fail
  go_cut [1] from 22 (fun s1 wx => s1 = .slice pa N ca ∧ wx = w1)
  case first =>
    have hNE := HNE.out
    by_cases h60 : 60 < na
    · rw [if_pos h60] at hNE
      subst hNE
      obtain ⟨g0, off, rfl, _⟩ := HA0.out (by omega)
      go_wp2_with fail
      go_meet
      exact ⟨rfl, rfl⟩
    · rw [if_neg h60] at hNE
      subst hNE
      go_wp2_with fail
      go_meet
      exact ⟨rfl, rfl⟩
  case rest =>
  obtain ⟨rfl, rfl⟩ := hcut
  go_upto_if 30 with fail
  go_cut [2] from 22 (fun s2 wx => s2 = .slice pp P cp ∧ wx = wc)
  case first =>
    have hPE := HPE.out
    by_cases h60 : 10000 < np
    · rw [if_pos h60] at hPE
      subst hPE
      obtain ⟨g0, off, rfl, _⟩ := HZ0.out.2 (by omega)
      go_wp2_with fail
      go_meet
      exact ⟨rfl, rfl⟩
    · rw [if_neg h60] at hPE
      subst hPE
      go_wp2_with fail
      go_meet
      exact ⟨rfl, rfl⟩
  case rest =>
  obtain ⟨rfl, rfl⟩ := hcut
  clear HNE HPE HA0 HZ0
  by_cases hn : n < 1 ∨ 256 < n
  · have HN := Lib.hid (made_no w wc HK1.out n hn)
    by_cases h2 : n < 1
    · have d1 : decide (n < 1) = true := by simpa using h2
      clear hn
      go_wp2_with fail
      refine HN.out.mono ?_
      rintro e w2 ⟨ab, rfl, hk⟩
      have HK := Lib.hid hk
      clear hk HN
      go_wp2_with fail
      go_ret
      exact ⟨rfl, HK.out⟩
    · have d1 : decide (n < 1) = false := by simpa using h2
      have d2 : decide (n > 256) = true := by simp; omega
      have d2' : decide (256 < n) = true := by simp; omega
      clear hn
      go_wp2_with fail
      refine HN.out.mono ?_
      rintro e w2 ⟨ab, rfl, hk⟩
      have HK := Lib.hid hk
      clear hk HN
      go_wp2_with fail
      go_ret
      exact ⟨rfl, HK.out⟩
  · obtain ⟨B, rfl⟩ := Int.eq_ofNat_of_zero_le (a := n) (by omega)
    have hB1 : 1 ≤ B := by omega
    have hB2 : B ≤ 256 := by omega
    have HN := Lib.hid (made_ok w wc HT.out HK1.out B hB1 hB2)
    clear hn
    go_wp2_with fail
    refine HN.out.mono ?_
    rintro e w2 ⟨ab, b, rfl, hX⟩
    have HTG := Lib.hid (together_walk (ca := ca) (cp := cp) HT.out hB1 hB2 hX hN1 hP1 HA.out HZ.out)
    clear hX HN
    go_wp2_with fail
    refine HTG.out.mono ?_
    rintro e w3 ⟨lv, ga, gn, obs, g, t, rfl, hgn, hov, ht9, hI, hX⟩
    obtain ⟨lp, lc, rfl⟩ := tog_slice hX
    have HX0 := Lib.hid (hX.beside (Has.rowsNil w3 41 4 (askF (inY a g 0))))
    have F : Fin B a N t g := ⟨hI, hB1, hgn, hov⟩
    rw [hgn] at HX0 ⊢
    have HF := Lib.hid F
    have HGN := Lib.hid hgn
    obtain ⟨i0, hi0, hz0, hz1, hz2⟩ := info_parts info_ask
    clear hX HTG hgn hov ht9 hI F
    go_wp2_with fail
    go_loopg [13, 14] N (fun k iv jv wr => ∃ i : Nat, i ≤ N ∧ k = N - i ∧ jv = .int .i64 i ∧ Has [] w wr ((Part.tog b (.slice lp N lc) ga gn obs a g).sep (.asks iv (puts a g i).length (inY a g i))))
    case atStart => exact ⟨0, Nat.zero_le _, rfl, rfl, HX0.out⟩
    case round =>
      clear HX0
      obtain ⟨i, hi, hk, rfl, hX⟩ := hrel
      obtain ⟨ip, ic, rfl⟩ := asks_slice hX
      have HX := Lib.hid hX
      have HK := Lib.hid hk
      have hpl := puts_len a g i
      clear hX hk
      by_cases hlt : i < N
      · have f1 : decide ((i : Int) < (N : Int)) = true := by simp; omega
        have f1' : decide (i < N) = true := by simpa using hlt
        have q3 : 0 ≤ (i : Int) ∧ (i : Int) < (N : Int) := by omega
        obtain ⟨gl, cap, he, hcc, _⟩ := ta_row HX.out (k := i) (by rw [HGN.out]; exact hlt)
        obtain ⟨rfl, hNn, rfl⟩ : lp = some ⟨gl, 0, none⟩ ∧ N = g.n ∧ lc = cap := by simpa using he
        have j4 := hcc 4 _ rfl
        obtain ⟨h4c, htold⟩ := HF.out.told hlt
        have HRC := Lib.hid (ta_ref HX.out (k := i) (by rw [HGN.out]; exact hlt) h4c)
        have HTL := Lib.hid htold
        have HLT := Lib.hid hlt
        clear hNn he hcc h4c hlt htold
        go_wp2_with fail
        refine HRC.out.mono ?_
        rintro e w5 ⟨rfl, hX5⟩
        obtain ⟨gl5, cap5, he5, hc5, _⟩ := ta_row hX5 (k := i) (by rw [HGN.out]; exact HLT.out)
        obtain ⟨rfl, hNn, rfl⟩ : gl = gl5 ∧ N = g.n ∧ lc = cap5 := by simpa using he5
        have HX5 := Lib.hid hX5
        have j2 := hc5 2 _ rfl
        have HLK := Lib.hid (lkey_walk w5 (a (g.x i)).key)
        have HC5 := Lib.hid hc5
        clear hNn he5 hX5 HX HRC hc5 j4
        go_wp2_with fail
        refine HLK.out.mono ?_
        rintro e w6 ⟨rfl, rfl⟩
        have j1 := HC5.out 1 _ rfl
        have j0 : w6.cell? ⟨gl, i * 7, none⟩ = some (.int .i64 (a (g.x i)).wk) := HC5.out 0 _ rfl
        have j3 := HC5.out 3 _ rfl
        rcases HTL.out with ⟨hk0, hcode⟩ | ⟨hk0, hcode, _⟩
        · have hno : putB a g i = false := by unfold putB; rw [hk0]; rfl
          have HNO := Lib.hid hno
          rw [hk0, hcode]
          clear hk0 hcode hno HLK HTL
          go_wp2_with fail
          go_roundg (N - (i + 1))
          case measure => rw [HK.out]; have := HLT.out; omega
          case rel => exact ⟨i + 1, HLT.out, rfl, by go_num, by
            have e9 : puts a g (i + 1) = puts a g i := by rw [puts_succ, if_neg (by rw [HNO.out]; simp), List.append_nil]
            have e8 : inY a g (i + 1) = inY a g i := by unfold inY; rw [e9]
            rw [e9, e8]; exact HX5.out⟩
        · rw [hk0, hcode]
          obtain ⟨lk, hlk⟩ : ∃ lk, (a (g.x i)).look = lk := ⟨_, rfl⟩
          obtain ⟨hd, hhd⟩ : ∃ hd, (g.q i).had = hd := ⟨_, rfl⟩
          rw [hlk] at j1
          rw [hhd]
          have HNP := Lib.hid (show putB a g i = (!lk && !hd) from by unfold putB; rw [hk0, hlk, hhd]; rfl)
          have HLKE := Lib.hid hlk
          clear hk0 hcode HLK HTL hlk hhd
          have leaf : (!lk && !hd) = false → Has [] w w6 ((Part.tog b (.slice (some ⟨gl, 0, none⟩) N lc) ga gn obs a g).sep (.asks (.slice ip (puts a g i).length ic) (puts a g (i + 1)).length (inY a g (i + 1)))) ∧ (puts a g (i + 1)).length = (puts a g i).length := fun h9 => by
            have e9 : puts a g (i + 1) = puts a g i := by rw [puts_succ, if_neg (by rw [HNP.out, h9]; simp), List.append_nil]
            have e8 : inY a g (i + 1) = inY a g i := by unfold inY; rw [e9]
            rw [e9, e8]; exact ⟨HX5.out, rfl⟩
          have HLF := Lib.hid leaf
          clear leaf
          cases lk with
          | true =>
            go_wp2_with fail
            go_roundg (N - (i + 1))
            case measure => rw [HK.out]; have := HLT.out; omega
            case rel => exact ⟨i + 1, HLT.out, rfl, by go_num, (HLF.out rfl).1⟩
          | false =>
            cases hd with
            | true =>
              go_wp2_with fail
              go_roundg (N - (i + 1))
              case measure => rw [HK.out]; have := HLT.out; omega
              case rel => exact ⟨i + 1, HLT.out, rfl, by go_num, (HLF.out rfl).1⟩
            | false =>
              have HFD := Lib.hid (find_none (ic := ic) HF.out HLT.out HNP.out hN1 (asks_read HX5.out (inY_range HA.out HF.out hi)))
              have HROW := Lib.hid ((asks_own HX5.out).alloc (.cells #[.int .i64 (a (g.x i)).wk, .bool false, .string (a (g.x i)).key, .int .i64 (a (g.x i)).ref] 41))
              clear HLF
              go_wp2_with fail
              refine HFD.out.mono ?_
              rintro e w7 ⟨rfl, rfl⟩
              clear HFD
              go_wp2_with (at_builtin; refine wpList_append_new rfl (.tmp 118) (.tmp 124) 33 rfl 41 i0 (.agg #[.int .i64 0, .bool false, .string ⟨#[]⟩, .int .i64 0]) 4 40 Tryd.underlying33 hi0 hz0 hz1 hz2 rfl (by decide) _ _ _ rfl HROW.out ⟨_, 0, none⟩ 1 1 [.int .i64 (a (g.x i)).wk, .bool false, .string (a (g.x i)).key, .int .i64 (a (g.x i)).ref] rfl rfl (cells_new _ _ _ _ rfl) (by simp [Value.oneCell']) (by simp only [maxLen]; omega) (by omega) ?_)
              intro v' w8 happ
              have h8 := asks_more (x := a (g.x i)) _ HX5.out (by unfold askF; rw [HLKE.out]; exact happ)
              have HX8 := Lib.hid (show Has [] w w8 ((Part.tog b (.slice (some ⟨gl, 0, none⟩) N lc) ga gn obs a g).sep (.asks v' (puts a g (i + 1)).length (inY a g (i + 1)))) from by
                have e9 : (puts a g (i + 1)).length = (puts a g i).length + 1 := by rw [puts_succ, if_pos (show putB a g i = true from HNP.out), List.length_append]; rfl
                rw [e9]
                unfold Part.asks
                rw [← rows_congr (inY_more i HNP.out)]
                exact h8)
              clear h8 happ HX5
              go_wp2_with fail
              go_roundg (N - (i + 1))
              case measure => rw [HK.out]; have := HLT.out; omega
              case rel => exact ⟨i + 1, HLT.out, rfl, by go_num, HX8.out⟩
      · obtain rfl : i = N := by omega
        clear hlt HK
        have HFI := Lib.hid (fun (c : Nat) (hc : c < i) (W : World) (hW : Has [] w W ((Part.tog b (.slice lp i lc) ga gn obs a g).sep (.asks (.slice ip (puts a g i).length ic) (puts a g i).length (inY a g i)))) =>
          fits_walk hW HF.out (by omega) (inY_range HA.out HF.out (Nat.le_refl _)) (fun j hj => inY_mem hj) (fun l hl hp => mem_inY hl hp) hc P hP1)
        have HKY := Lib.hid (fun (W : World) (hW : Has [] w W ((Part.tog b (.slice lp i lc) ga gn obs a g).sep (.asks (.slice ip (puts a g i).length ic) (puts a g i).length (inY a g i)))) => keys_all HF.out hN1 hB2 HA.out hW)
        have HSO := Lib.hid (fun (W : World) (kp : Option Addr) (kc : Nat) h1 h2 => sorted_all (W := W) (kp := kp) (kc := kc) (ic := ic) (ip := ip) HF.out hN1 h1 h2)
        generalize hkl : (puts a g i).length = kl at *
        go_wp2_with fail
        go_loopg [20] i (fun k jv wr => ∃ c : Nat, c ≤ i ∧ k = i - c ∧ jv = .int .i64 c ∧ Has [] w wr ((Part.tog b (.slice lp i lc) ga gn obs a g).sep (.asks (.slice ip kl ic) kl (inY a g i))))
        case atStart => exact ⟨0, Nat.zero_le _, rfl, rfl, HX.out⟩
        case round =>
          clear HX
          obtain ⟨c, hc, hk, rfl, hX⟩ := hrel
          have HX := Lib.hid hX
          have HK := Lib.hid hk
          clear hX hk
          by_cases hlt : c < i
          · have f1 : decide ((c : Int) < (i : Int)) = true := by simp; omega
            have f1' : decide (c < i) = true := by simpa using hlt
            have HF1 := Lib.hid (HFI.out c hlt _ HX.out)
            have HLT := Lib.hid hlt
            clear hlt
            go_wp2_with fail
            refine HF1.out.mono ?_
            rintro e w9 ⟨rfl, hX9⟩
            have HX9 := Lib.hid hX9
            clear hX9 HX HF1
            go_wp2_with fail
            go_roundg (i - (c + 1))
            case measure => rw [HK.out]; have := HLT.out; omega
            case rel => exact ⟨c + 1, HLT.out, rfl, by go_num, HX9.out⟩
          · have f1 : decide ((c : Int) < (i : Int)) = false := by simp; omega
            have f1' : decide (c < i) = false := by simpa using hlt
            have HKC := Lib.hid (HKY.out _ HX.out)
            clear hlt
            go_wp2_with fail
            refine HKC.out.mono ?_
            rintro e w9 ⟨kp, kc, rfl, hs1, hs2, hk9⟩
            have HSC := Lib.hid (HSO.out _ kp kc hs1 hs2)
            have HK9 := Lib.hid hk9
            clear hs1 hs2 hk9 HKC
            go_wp2_with fail
            refine HSC.out.mono ?_
            rintro e w10 ⟨rfl, hk10⟩
            have HK10 := Lib.hid (HK9.out.tr hk10)
            clear hk10
            go_wp2_with fail
            go_ret
            exact ⟨rfl, HK10.out⟩
end Go.Proofs.YtmldighidbfhhaaDoor
namespace Go.Proofs.YtmldighidbfhhaaDoor
open Go Go.RowKit
set_option linter.unusedVariables false

variable {o : List Nat} {w0 w : World} {b : Nat} {T : AHt} {C : Nat → List Nat} {q : AHop} {S s D : List Nat} {ob : Nat}

/-- A step that may be the last one, or leaves fewer. -/
def Ends (ob : Nat) (R : Nat → World → Prop) (F : World → Prop) : Prop :=
  ∀ c w, R c w → Calls Tryd.prog 21 #[.pointer (some ⟨ob, 0, none⟩)] w fun e w' => (e = .returned (.bool true) ∧ F w') ∨ (e = .returned (.bool false) ∧ ∃ c', c' < c ∧ R c' w')

set_option maxHeartbeats 1000000 in
set_option maxRecDepth 100000 in
theorem done_any {R : Nat → World → Prop} {F : World → Prop} (hR : Ends ob R F) (c : Nat) (most : Nat) (hm : c + 1 ≤ most) (hm9 : most ≤ 1000000000000) (h : R c w) :
    Calls Tryd.prog 23 #[.pointer (some ⟨ob, 0, none⟩), .int .i64 (most : Nat)] w fun e w' => ∃ r : Nat, e = .returned (.int .i64 ((r : Int) + 1)) ∧ F w' := by
  have HR := Lib.hid hR
  have H := Lib.hid h
  clear hR h
  go_enter Tryd.func23, Tryd.ntmps23
  go_wp2_with fail
  go_loopg [5] c (fun k iv wr => ∃ i : Nat, i + 1 + k ≤ most ∧ iv = .int .i64 ((i : Int) + 1) ∧ R k wr)
  case atStart => exact ⟨0, by omega, rfl, H.out⟩
  case round =>
    clear H
    obtain ⟨i, hi, rfl, hX⟩ := hrel
    have HS := Lib.hid (HR.out _ _ hX)
    have HI := Lib.hid hi
    have d1 : decide ((i : Int) + 1 ≤ (most : Int)) = true := decide_eq_true (by omega)
    have hi9 : (i : Int) + 1 ≤ 1000000000000 := by omega
    clear hX hi
    go_wp2_with fail
    refine HS.out.mono ?_
    rintro e w2 (⟨rfl, hF⟩ | ⟨rfl, c', hc', hX⟩)
    · have HF := Lib.hid hF
      clear hF HS
      go_wp2_with fail
      go_ret
      exact ⟨i, rfl, HF.out⟩
    · have HC := Lib.hid hc'
      have HX := Lib.hid hX
      clear hc' hX HS
      go_wp2_with fail
      go_roundg c'
      case measure => exact HC.out
      case rel => exact ⟨i + 1, by have := HI.out; have := HC.out; omega, by go_num, HX.out⟩

theorem hstep_look (hp : q.puts = false) (hw : q.own = 0) (hn : q.next = 0 ∨ q.next = 1) : ∃ st, (hstep T q).1 = T.at9 st := by
  have look : ∀ (q : AHop), q.puts = false → q.own = 0 → ∃ st, (lookS T.step q).1 = T.at9 st := fun q hp hw => by
    refine ⟨wrap64 (T.steps + 1), ?_⟩
    unfold lookS
    split
    · rw [if_neg (by rw [hp]; simp)]; rfl
    · split
      · rfl
      · rfl
  unfold hstep
  rw [if_neg (by rcases hn with h | h <;> omega)]
  split
  · exact ⟨T.steps, rfl⟩
  rcases hn with h | h
  · rw [if_pos h]; exact look _ hp hw
  · rw [if_neg (by omega), if_pos h]; exact look _ hp hw

/-- A lookup under way. -/
def Lk (b : Nat) (T : AHt) (C : Nat → List Nat) (n : Nat) (obs : Nat → Nat) (key : ByteArray) (o : List Nat) (w0 : World) (c : Nat) (W : World) : Prop :=
  ∃ st q S s, OpI (T.at9 st) C q S s (C (T.bk key)) ∧ q.key = key ∧ q.puts = false ∧ cost n (T.at9 st) C q S s ≤ c ∧ Has o w0 W (.many b (T.at9 st) 1 obs fun _ => q)

theorem tab_at9 (ht : Tab T C) (st : Int) : Tab (T.at9 st) C := by
  refine ht.rest (own := -1) ⟨rfl, rfl, rfl, ⟨Nat.le_refl _, Nat.le_succ _⟩, fun _ _ _ _ => rfl, fun _ _ _ => ⟨rfl, rfl⟩⟩ (fun _ _ => rfl) fun j hj v hv => by omega

theorem lk_ends (hT : TabAt w0) (ho : 0 ∉ o) (ht : Tab T C) (hB : 0 < T.nB) (hB9 : T.nB ≤ 256) (hn : T.nE ≤ 65536) (hfree : T.used < T.size) (n : Nat) (hl : ∀ j, j < T.nB → (C j).length ≤ n) (obs : Nat → Nat) (key : ByteArray)
    (hin : ∃ v ∈ C (T.bk key), ky T v = key) : Ends (obs 0) (Lk b T C n obs key o w0) (fun W => ∃ st q, q.next = 4 ∧ q.had = true ∧ q.code = 0 ∧ Has o w0 W (.many b (T.at9 st) 1 obs fun _ => q)) := by
  rintro c W ⟨st, q, S, s, hO, hk, hp, hc, hX⟩
  have ht9 := tab_at9 ht st
  have hw : q.own = 0 := by
    rcases hO.own with h | ⟨_, _, _, _, _, _, h, _⟩
    · exact h
    · rw [hp] at h; cases h
  have h2 : q.next ≠ 2 := fun h => (hO.two (.inl h)).1 hw
  have h3 : q.next ≠ 3 := fun h => (hO.two (.inr h)).1 hw
  obtain ⟨st', hst⟩ := hstep_look (T := T.at9 st) hp hw (by rcases hO.next with h | h | h | h; exact .inl h; exact .inr h; exact absurd h h2; exact absurd h h3)
  have hlaw := step_law n ht9 hB hl hO
  refine (many_step hX (i := 0) (by omega) hT ho hB hB9 hn hfree (hO.hok ht9 hB)).mono ?_
  rintro e w' ⟨rfl, hX'⟩
  have hX2 : Has o w0 w' (.many b (T.at9 st') 1 obs fun _ => (hstep (T.at9 st) q).2.1) := by
    rw [hst] at hX'
    refine hX'.weaken (Part.Imp.sep (Part.Imp.refl _) (Part.Imp.all fun j hj => ?_))
    obtain rfl : j = 0 := by omega
    unfold updQ; rw [if_pos rfl]; exact Part.Imp.refl _
  rcases hlaw with ⟨a1, a2, a3, a4, a5⟩ | ⟨_, _, hpu, _⟩
  · rcases a5 with ⟨b1, b2, b3, b4, S', s', b5, b6⟩ | ⟨b1, b2, b3, b4⟩
    · right
      rw [hst] at b5 b6
      exact ⟨by rw [b1], _, Nat.lt_of_lt_of_le b6 hc, st', _, S', s', b5, by rw [a3, hk], by rw [a4, hp], Nat.le_refl _, hX2⟩
    · left
      refine ⟨by rw [b1], st', _, ?_, ?_, ?_, hX2⟩
      all_goals (
        obtain ⟨v, hv, hkv⟩ := hin
        have hkb := (bk_eq T key hB).2
        have hkk : keyB key = true := by rw [← hkv]; exact (ht.bkt _ hkb v hv).2
        obtain ⟨h4, hs | ⟨_, h0, hs⟩⟩ := b4)
      · exact h4
      · exact h4
      · have := hs.1; rw [a3, hk, hkk] at this; cases this
      · rcases hs with ⟨h, _⟩ | ⟨_, _, _, h⟩ | ⟨_, h, _⟩
        · exact h
        · refine absurd ?_ (h v hv)
          rw [a3, hk]
          have e : ky (hstep (T.at9 st) q).1 v = ky T v := by rw [hst]; rfl
          rw [e, hkv]
        · rw [hp] at h; cases h
      · have := hs.1; rw [a3, hk, hkk] at this; cases this
      · exact h0
  · rw [hp] at hpu; cases hpu
end Go.Proofs.YtmldighidbfhhaaDoor
namespace Go.Proofs.YtmldighidbfhhaaDoor
open Go Go.RowKit
set_option linter.unusedVariables false

variable {w0 w : World} {b B : Nat} {a : Nat → HAsk} {N : Nat} {g : Tg} {lv : Value} {ga gn : Nat} {obs : Nat → Nat} {R : Part}

/-- How many cells are in use, told. -/
theorem used_all {o : List Nat} {T : AHt} (h : Has o w0 w ((Part.table b T).sep R)) :
    Calls Tryd.prog 22 #[.pointer (some ⟨T.ab, 0, none⟩)] w fun e w' => e = .returned (.int .i64 (T.used : Nat)) ∧ w = w' := by
  obtain ⟨o1, h1, _⟩ := h.left
  obtain ⟨x, hr, h2⟩ := h1.htOpen
  obtain ⟨o2, hO, _⟩ := htp_arena h2
  refine (own_used hO).mono ?_
  rintro e w' ⟨rfl, rfl⟩
  exact ⟨by rw [hr.rep.count], rfl⟩

/-- A lookup of a key that is in, made and stepped until it is done, and asked. -/
def Looked (T : AHt) (b : Nat) (w : World) (R : Part) (ob : Nat) (W : World) : Prop := ∃ st q, q.next = 4 ∧ q.had = true ∧ q.code = 0 ∧ Has [] w W ((Part.many b (T.at9 st) 1 (fun _ => ob) fun _ => q).sep R)

theorem many_table {o : List Nat} {T : AHt} {n : Nat} {qs : Nat → AHop} (h : Has o w0 w ((Part.many b T n obs qs).sep R)) : Has o w0 w ((Part.table b T).sep R) := h.weaken (Part.Imp.sep (Part.Imp.fst _ _) (Part.Imp.refl _))

/-- What a table is, whatever its steps. -/
structure Std (B : Nat) (T : AHt) (C : Nat → List Nat) (n : Nat) : Prop where
  tab : Tab T C
  pos : 0 < T.nB
  b9 : T.nB ≤ 256
  nE : T.nE ≤ 65536
  free : T.used < T.size
  len : ∀ j, j < T.nB → (C j).length ≤ n
  nB : T.nB = B

theorem lookup_all {T : AHt} {C : Nat → List Nat} {n : Nat} (hS : Std B T C n) {st : Int} (h : Has [] w0 w ((Part.table b (T.at9 st)).sep R)) (key : ByteArray) :
    Calls Tryd.prog 20 #[.pointer (some ⟨b, 0, none⟩), .string key] w fun e w' => ∃ ob, e = .returned (.pointer (some ⟨ob, 0, none⟩)) ∧ Has [] w0 w' ((Part.many b (T.at9 st) 1 (fun _ => ob) fun _ => .new key 0 false).sep R) := by
  obtain ⟨o1, h1, p1, _, b1⟩ := h.left
  refine (lookup_walk w (some ⟨b, 0, none⟩) key).mono ?_
  rintro e w' ⟨ob, rfl, hO⟩
  refine ⟨ob, rfl, b1 _ _ ?_⟩
  have h2 := many_more (many_zero h1 (fun _ => 0) (fun _ => .new key 0 false)) hO
  refine h2.weaken (Part.Imp.sep (Part.Imp.refl _) (Part.Imp.all fun j hj => ?_))
  obtain rfl : j = 0 := by omega
  dsimp only
  unfold updQ
  rw [if_pos rfl, if_pos rfl]; exact Part.Imp.refl _
theorem looked_all {T : AHt} {C : Nat → List Nat} {n : Nat} (hT : TabAt w0) (hS : Std B T C n) {st : Int} {ob : Nat} {key : ByteArray} (h : Has [] w0 w ((Part.many b (T.at9 st) 1 (fun _ => ob) fun _ => .new key 0 false).sep R)) (hin : ∃ v ∈ C (T.bk key), ky T v = key) (most : Nat) (hm : n + 4 ≤ most) (hm9 : most ≤ 1000000) :
    Calls Tryd.prog 23 #[.pointer (some ⟨ob, 0, none⟩), .int .i64 (most : Nat)] w fun e w' => ∃ r : Nat, e = .returned (.int .i64 ((r : Int) + 1)) ∧ Looked T b w0 R ob w' := by
  obtain ⟨o1, h1, p1, _, b1⟩ := h.left
  have ho : 0 ∉ o1 := fun hm => by
    rcases p1 _ hm with h2 | h2
    · cases h2
    · have := tab_lt hT; omega
  have hTw : TabAt w := hT.kept h.keeps (by simp)
  have hE := lk_ends (b := b) hTw ho hS.tab hS.pos hS.b9 hS.nE hS.free n hS.len (fun _ => ob) key hin
  have ht9 := tab_at9 hS.tab st
  have hc : cost n (T.at9 st) C (AHop.new key 0 false) [] [] = n + 3 := cost_zero rfl
  have hO : OpI (T.at9 st) C (AHop.new key 0 false) [] [] (C (T.bk key)) := by
    refine ⟨.inl rfl, .inl rfl, List.suffix_refl _, fun h => absurd rfl h, fun h => ?_, fun h => ?_, fun h => ?_, ⟨Int.le_refl _, Int.natCast_nonneg _⟩, fun h => absurd rfl h⟩
    · have : (0 : Int) = 1 := h; omega
    · have : (0 : Int) = 2 ∨ (0 : Int) = 3 := h; omega
    · have : (0 : Int) = 3 := h; omega
  have hL : Lk b T C n (fun _ => ob) key o1 w (n + 3) w := ⟨st, AHop.new key 0 false, [], [], hO, rfl, rfl, by rw [hc]; exact Nat.le_refl _, h1⟩
  refine (done_any hE (n + 3) most (by omega) (by omega) hL).mono ?_
  rintro e w' ⟨r, rfl, st', q, h4, hh, hc0, h'⟩
  exact ⟨r, rfl, st', q, h4, hh, hc0, b1 _ _ h'⟩
theorem looked_ref {T : AHt} {ob : Nat} (h : Looked T b w0 R ob w) :
    Calls Tryd.prog 13 #[.pointer (some ⟨ob, 0, none⟩)] w fun e w' => ∃ rf st, e = .returned (.tuple #[.int .i64 rf, .bool true, .int .i64 0]) ∧ Has [] w0 w' ((Part.table b (T.at9 st)).sep R) := by
  obtain ⟨st, q, h4, hh, hc, hX⟩ := h
  obtain ⟨o1, h1, _, _, b1⟩ := hX.left
  refine (many_ref h1 (i := 0) (by omega) h4).mono ?_
  rintro e w' ⟨rfl, h'⟩
  exact ⟨q.ref, st, by rw [hh, hc], many_table (b1 _ _ h')⟩
/-- Keys out of all, with what is behind. -/
theorem keys_std {T : AHt} {C : Nat → List Nat} {n : Nat} (hS : Std B T C n) (hs : sumL (fun j => (C j).length) B ≤ 65536) (h : Has [] w0 w (.table b T)) :
    Calls Tryd.prog 17 #[.pointer (some ⟨b, 0, none⟩)] w fun e w' => ∃ kp kc st, e = .returned (.slice kp (sortK (keysL T C B)).length kc) ∧ Has [] w0 w' ((Part.table b (T.at9 st)).sep (.strs (.slice kp (sortK (keysL T C B)).length kc) (sortK (keysL T C B)))) := by
  refine (keys_walk h hS.tab hS.pos hS.b9 hS.nE (by rw [hS.nB]; exact hs)).mono ?_
  rintro e w' ⟨lv, st, rfl, h2⟩
  rw [hS.nB] at h2
  obtain ⟨kp, kc, e⟩ := strs_slice (strs_row h2)
  subst e
  exact ⟨kp, kc, st, rfl, h2⟩
theorem Fin.used {t : Int} (F : Fin B a N t g) : g.T.used = B + (keysL g.T g.C B).length := by
  have h := F.inv.used
  have no : ∀ v, v < 4 → g.ownW v = 0 := fun v hv => by
    unfold Tg.ownW
    cases hn : g.now v with
    | none => rfl
    | some k =>
      obtain ⟨h1, _, h3⟩ := F.inv.now v hv k hn
      have := F.over k (by rw [← F.n]; exact h1)
      omega
  have e : sum4 g.ownW = 0 := by
    unfold sum4
    rw [no 0 (by omega), no 1 (by omega), no 2 (by omega), no 3 (by omega)]
  rw [e] at h
  rw [h, keysL_len]; rfl
theorem Fin.std {t : Int} (F : Fin B a N t g) (hN : N ≤ 60) (hB2 : B ≤ 256) : Std B g.T g.C (sortK (keysL g.T g.C B)).length := by
  obtain ⟨r1, r2, r3, r4⟩ := F.inv.room hN F.pos hB2
  refine ⟨F.inv.tab, r1, r2, r3, r4, fun j hj => ?_, F.inv.nB⟩
  rw [sortK_len, keysL_len]
  exact F.inv.len j (by rw [← F.inv.nB]; exact hj)
theorem Fin.hasKey {t : Int} (F : Fin B a N t g) {i : Nat} (hi : i < (sortK (keysL g.T g.C B)).length) : ∃ v ∈ g.C (g.T.bk ((sortK (keysL g.T g.C B)).getD i ⟨#[]⟩)), ky g.T v = (sortK (keysL g.T g.C B)).getD i ⟨#[]⟩ := by
  have hm : (sortK (keysL g.T g.C B)).getD i ⟨#[]⟩ ∈ keysL g.T g.C B := by
    rw [List.getD_eq_getElem?_getD, List.getElem?_eq_getElem hi, Option.getD_some]
    exact (sortK_perm _).mem_iff.1 (List.getElem_mem _)
  obtain ⟨j, hj, v, hv, e⟩ := memKeys.1 hm
  refine ⟨v, ?_, e⟩
  have := (F.inv.tab.bkt j (by rw [F.inv.nB]; exact hj) v hv).1
  rw [← e, this]; exact hv

set_option maxHeartbeats 16000000 in
set_option maxRecDepth 100000 in
theorem holds_law (hT : TabAt w) (n : Int) {pa pp : Option Addr} {na ca np cp : Nat} {z : Nat → Int} (hA : AskIn w pa na a) (hZ : InRow w pp np z) (ha : na ≤ ca) (ha2 : ca ≤ maxLen) (hp : np ≤ cp) (hp2 : cp ≤ maxLen) :
    Calls Tryd.prog 6 #[.int .i64 n, .slice pa na ca, .slice pp np cp] w fun e w' => e = .returned (.bool true) ∧ Kept [] w w' := by
  have HT := Lib.hid hT
  obtain ⟨N, hNe⟩ : ∃ N, (if 60 < na then 60 else na) = N := ⟨_, rfl⟩
  obtain ⟨P, hPe⟩ : ∃ P, (if 10000 < np then 10000 else np) = P := ⟨_, rfl⟩
  have hN : N ≤ 60 ∧ N ≤ na := by rw [← hNe]; split <;> omega
  have hP : P ≤ 10000 ∧ P ≤ np := by rw [← hPe]; split <;> omega
  have HA := Lib.hid (cut_asks hA hN.2)
  have HZ := Lib.hid (cut_nums hZ hP.2)
  have HA0 := Lib.hid hA
  have HZ0 := Lib.hid hZ
  have HNE := Lib.hid hNe
  have HPE := Lib.hid hPe
  have hx1 : ca ≤ 9223372036854775807 := Nat.le_trans ha2 (by decide)
  have hx2 : cp ≤ 9223372036854775807 := Nat.le_trans hp2 (by decide)
  obtain ⟨hN1, hN2⟩ := hN
  obtain ⟨hP1, hP2⟩ := hP
  clear hT hA hZ hNe hPe
  go_enter Tryd.func6, Tryd.ntmps6
  go_wp2_with fail
  refine (shown_calls w HT.out).mono ?_
  rintro e w1 ⟨rfl, hk⟩
  have HK1 := Lib.hid hk
  clear hk
  go_upto_if 23 with fail
  go_cut [1] from 20 (fun s1 wx => s1 = .slice pa N ca ∧ wx = w1)
  case first =>
    have hNE := HNE.out
    by_cases h60 : 60 < na
    · rw [if_pos h60] at hNE
      subst hNE
      obtain ⟨g0, off, rfl, _⟩ := HA0.out (by omega)
      go_wp2_with fail
      go_meet
      exact ⟨rfl, rfl⟩
    · rw [if_neg h60] at hNE
      subst hNE
      go_wp2_with fail
      go_meet
      exact ⟨rfl, rfl⟩
  case rest =>
  obtain ⟨rfl, rfl⟩ := hcut
  go_upto_if 28 with fail
  go_cut [2] from 20 (fun s2 wx => s2 = .slice pp P cp ∧ wx = wc)
  case first =>
    have hPE := HPE.out
    by_cases h60 : 10000 < np
    · rw [if_pos h60] at hPE
      subst hPE
      obtain ⟨g0, off, rfl, _⟩ := HZ0.out.2 (by omega)
      go_wp2_with fail
      go_meet
      exact ⟨rfl, rfl⟩
    · rw [if_neg h60] at hPE
      subst hPE
      go_wp2_with fail
      go_meet
      exact ⟨rfl, rfl⟩
  case rest =>
  obtain ⟨rfl, rfl⟩ := hcut
  clear HNE HPE HA0 HZ0
  by_cases hn : n < 1 ∨ 256 < n
  · have HN := Lib.hid (made_no w wc HK1.out n hn)
    by_cases h2 : n < 1
    · have d1 : decide (n < 1) = true := by simpa using h2
      clear hn
      go_wp2_with fail
      refine HN.out.mono ?_
      rintro e w2 ⟨ab, rfl, hk⟩
      have HK := Lib.hid hk
      clear hk HN
      go_wp2_with fail
      go_ret
      exact ⟨rfl, HK.out⟩
    · have d1 : decide (n < 1) = false := by simpa using h2
      have d2 : decide (n > 256) = true := by simp; omega
      have d2' : decide (256 < n) = true := by simp; omega
      clear hn
      go_wp2_with fail
      refine HN.out.mono ?_
      rintro e w2 ⟨ab, rfl, hk⟩
      have HK := Lib.hid hk
      clear hk HN
      go_wp2_with fail
      go_ret
      exact ⟨rfl, HK.out⟩
  · obtain ⟨B, rfl⟩ := Int.eq_ofNat_of_zero_le (a := n) (by omega)
    have hB1 : 1 ≤ B := by omega
    have hB2 : B ≤ 256 := by omega
    have HN := Lib.hid (made_ok w wc HT.out HK1.out B hB1 hB2)
    clear hn
    go_wp2_with fail
    refine HN.out.mono ?_
    rintro e w2 ⟨ab, b, rfl, hX⟩
    have HTG := Lib.hid (together_walk (ca := ca) (cp := cp) HT.out hB1 hB2 hX hN1 hP1 HA.out HZ.out)
    clear hX HN
    go_wp2_with fail
    refine HTG.out.mono ?_
    rintro e w3 ⟨lv, ga, gn, obs, g, t, rfl, hgn, hov, hab, hI, hX⟩
    have F : Fin B a N t g := ⟨hI, hB1, hgn, hov⟩
    have HF := Lib.hid F
    have HSTD := Lib.hid (F.std hN1 hB2)
    have HKC := Lib.hid (keys_std (w0 := w) HSTD.out (by have := F.inv.sumN; omega) ((hX.weaken (Part.Imp.fst _ _)).weaken (Part.Imp.fst _ _)))
    have HAB := Lib.hid hab
    clear hX HTG hgn hov hab hI F
    go_wp2_with fail
    refine HKC.out.mono ?_
    rintro e w4 ⟨kp, kc, st, rfl, hX4⟩
    obtain ⟨m, hm⟩ : ∃ m, (sortK (keysL g.T g.C B)).length = m := ⟨_, rfl⟩
    have HX4 := Lib.hid hX4
    have HUS := Lib.hid (show Calls Tryd.prog 22 #[.pointer (some ⟨ab, 0, none⟩)] w4 fun e w' => e = .returned (.int .i64 ((B : Int) + (m : Int))) ∧ w4 = w' from by
      have h := used_all hX4
      have e1 : (g.T.at9 st).ab = ab := HAB.out
      have e2 : (g.T.at9 st).used = B + m := by
        show g.T.used = B + m
        rw [HF.out.used, ← hm, sortK_len]
      rw [e1, e2, show ((B + m : Nat) : Int) = (B : Int) + (m : Int) by omega] at h
      exact h)
    have hm9 : m ≤ 60 := by
      rw [← hm, sortK_len, keysL_len]
      exact Nat.le_trans HF.out.inv.sumN hN1
    have HM := Lib.hid hm
    have g1 : ((B : Int) + (m : Int) != (B : Int) + (m : Int)) = false := by simp
    rw [hm]
    clear hX4 HKC hm
    go_wp2_with fail
    refine HUS.out.mono ?_
    rintro e w5 ⟨rfl, rfl⟩
    clear HUS
    go_wp2_with fail
    go_loopg [14] m (fun k iv wr => ∃ (i : Nat) (st : Int), i ≤ m ∧ k = m - i ∧ iv = .int .i64 i ∧ Has [] w wr ((Part.table b (g.T.at9 st)).sep (.strs (.slice kp (sortK (keysL g.T g.C B)).length kc) (sortK (keysL g.T g.C B)))))
    case atStart => exact ⟨0, st, Nat.zero_le _, rfl, rfl, HX4.out⟩
    case round =>
      clear HX4
      obtain ⟨i, st2, hi, hk, rfl, hX⟩ := hrel
      have HX := Lib.hid hX
      have HK := Lib.hid hk
      clear hX hk
      by_cases hlt : i < m
      · have f1 : decide ((i : Int) < (m : Int)) = true := by simp; omega
        have f1' : decide (i < m) = true := by simpa using hlt
        have q1 : 0 ≤ (i : Int) ∧ (i : Int) < (m : Int) := by omega
        have hs := strs_read HX.out
        rw [HM.out] at hs
        obtain ⟨gs, off, rfl, hc⟩ := hs (by omega)
        have c1 : wr.cell? ⟨gs, off + i, none⟩ = some (.string ((sortK (keysL g.T g.C B)).getD i ⟨#[]⟩)) := hc i hlt
        obtain ⟨key, hkey⟩ : ∃ key, (sortK (keysL g.T g.C B)).getD i ⟨#[]⟩ = key := ⟨_, rfl⟩
        rw [hkey] at c1
        have HIN := Lib.hid (show ∃ v ∈ g.C (g.T.bk key), ky g.T v = key from by rw [← hkey]; exact HF.out.hasKey (by rw [HM.out]; exact hlt))
        have HLT := Lib.hid hlt
        have HLK := Lib.hid (lookup_all HSTD.out HX.out key)
        clear hs hc hkey hlt HX
        go_wp2_with fail
        refine HLK.out.mono ?_
        rintro e w6 ⟨ob, rfl, hX6⟩
        have HDN := Lib.hid (show Calls Tryd.prog 23 #[.pointer (some ⟨ob, 0, none⟩), .int .i64 (8 + 4 * (m : Int))] w6 fun e w' => ∃ r : Nat, e = .returned (.int .i64 ((r : Int) + 1)) ∧ Looked g.T b w (.strs (.slice (some ⟨gs, off, none⟩) (sortK (keysL g.T g.C B)).length kc) (sortK (keysL g.T g.C B))) ob w' from by
          have h := looked_all HT.out HSTD.out hX6 HIN.out (8 + 4 * m) (by rw [HM.out]; omega) (by omega)
          rw [show ((8 + 4 * m : Nat) : Int) = 8 + 4 * (m : Int) by omega] at h
          exact h)
        clear hX6 HLK
        go_wp2_with fail
        refine HDN.out.mono ?_
        rintro e w7 ⟨rr, rfl, hL⟩
        have HRF := Lib.hid (looked_ref hL)
        have e1 : decide ((rr : Int) + 1 < 0) = false := decide_eq_false (by omega)
        clear hL HDN
        go_wp2_with fail
        refine HRF.out.mono ?_
        rintro e w8 ⟨rf, st8, rfl, hX8⟩
        have HX8 := Lib.hid hX8
        clear hX8 HRF
        go_wp2_with fail
        go_roundg (m - (i + 1))
        case measure => rw [HK.out]; have := HLT.out; omega
        case rel => exact ⟨i + 1, st8, HLT.out, rfl, by go_num, HX8.out⟩
      · have f1 : decide ((i : Int) < (m : Int)) = false := by simp; omega
        have f1' : decide (i < m) = false := by simpa using hlt
        clear hlt
        go_wp2_with fail
        go_ret
        exact ⟨rfl, HX.out.keeps⟩
end Go.Proofs.YtmldighidbfhhaaDoor
