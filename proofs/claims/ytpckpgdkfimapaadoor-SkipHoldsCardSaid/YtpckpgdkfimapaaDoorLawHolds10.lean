/- The walk of SkipHolds: true at all asks and picks, and nothing that was there has changed; ahead of it, how many keys are in, and how many cells are in use. -/
import Derived.Test.YtpckpgdkfimapaaDoorSkipKeys
import Derived.Test.YtpckpgdkfimapaaDoorLawTog10
import Derived.Test.YtpckpgdkfimapaaDoorSkipTogW
namespace Go.Proofs.YtpckpgdkfimapaaDoor
open Go Go.RowKit
set_option linter.unusedVariables false

variable {a : Nat → SAsk} {N : Nat} {t : Int} {g : Tg}

def puts (a : Nat → SAsk) (g : Tg) (i : Nat) : List Nat := (List.range i).filter (putB a g)
theorem puts_succ (a : Nat → SAsk) (g : Tg) (i : Nat) : puts a g (i + 1) = puts a g i ++ (if putB a g i = true then [i] else []) := by
  unfold puts
  rw [List.range_succ, List.filter_append]
  congr 1
  by_cases h : putB a g i = true
  · rw [if_pos h, List.filter_cons_of_pos h]; rfl
  · rw [if_neg h, List.filter_cons_of_neg h]; rfl
theorem mem_puts {i k : Nat} : k ∈ puts a g i ↔ k < i ∧ putB a g k = true := by
  unfold puts; simp
theorem puts_len (a : Nat → SAsk) (g : Tg) (i : Nat) : (puts a g i).length ≤ i := by
  unfold puts
  exact Nat.le_trans (List.length_filter_le _ _) (by simp)

theorem Fin.count (F : Fin a N t g) : (g.C 0).length = (puts a g N).length := by
  have e : ((puts a g N).map fun k => (a (g.x k)).key).length = (puts a g N).length := List.length_map _
  have e0 : ((g.C 0).map (ky g.T)).length = (g.C 0).length := List.length_map _
  rw [← e, ← e0]
  have hnd : ((puts a g N).map fun k => (a (g.x k)).key).Nodup := by
    have : (puts a g N).Nodup := List.Pairwise.filter _ List.nodup_range
    refine List.pairwise_map.2 (List.Pairwise.imp_of_mem (fun {k l} hk hl hkl e => ?_) this)
    rw [mem_puts] at hk hl
    exact hkl (F.uniq hk.1 hl.1 hk.2 hl.2 e)
  have hnd0 : ((g.C 0).map (ky g.T)).Nodup := List.pairwise_map.2 ((F.inv.skp.srt 0 (by omega)).imp fun {u v} h e => by rw [e] at h; exact kl_irrefl _ h)
  refine Nat.le_antisymm (len_le _ _ hnd0 fun k hk => ?_) (len_le _ _ hnd fun k hk => ?_)
  · obtain ⟨v, hv, rfl⟩ := List.mem_map.1 hk
    obtain ⟨l, w1, w2, _, w3, _⟩ := F.who hv
    exact List.mem_map.2 ⟨l, mem_puts.2 ⟨w1, w2⟩, w3.symm⟩
  · obtain ⟨l, hl, rfl⟩ := List.mem_map.1 hk
    rw [mem_puts] at hl
    obtain ⟨v, v1, _, v3, _⟩ := F.mine hl.1 hl.2
    exact List.mem_map.2 ⟨v, v1, v3⟩

/-- How many cells an operation took. -/
def took (a : Nat → SAsk) (g : Tg) (k : Nat) : Nat := if putB a g k = true then (hgt (a (g.x k)).height).toNat else 0
theorem took_le (a : Nat → SAsk) (g : Tg) (k : Nat) : took a g k ≤ 8 := by
  have := hgt_range (a (g.x k)).height
  unfold took
  split <;> omega
theorem Fin.used (F : Fin a N t g) : g.T.used = 8 + sumL (took a g) N := by
  have h := F.inv.used
  rw [F.n] at h
  rw [h, sumL_congr fun k hk => ?_]
  obtain ⟨_, e1, e2, _, e4⟩ := F.key hk
  show useQ (g.q k) = took a g k
  unfold took
  by_cases hp : putB a g k = true
  · rw [if_pos hp]
    obtain ⟨v, v1, v2, _⟩ := F.mine hk hp
    have hv1 := F.v1 v1
    obtain ⟨p1, p2, _⟩ := putB_iff.1 hp
    have u : useQ (g.q k) = (g.q k).height.toNat := if_pos ⟨by omega, p2⟩
    rw [u, e4 p1]
  · rw [if_neg hp]
    refine if_neg fun h9 => ?_
    rcases (F.told hk).2 with ⟨_, _, _, _, _, h0⟩ | T
    · exact h9.1 h0
    · rcases Decidable.em ((a (g.x k)).kd = 0) with h0 | h0
      · exact hp (putB_iff.2 ⟨h0, h9.2, T.code⟩)
      · exact h9.1 (F.inv.noown k (by rw [F.n]; exact hk) (by rw [e2]; exact h0))

/-- The asks that have put in, of the first operations. -/
def inY (a : Nat → SAsk) (g : Tg) (i k : Nat) : SAsk := a (g.x ((puts a g i).getD k 0))
theorem inY_mem {i k : Nat} (h : k < (puts a g i).length) : ∃ l, l < i ∧ putB a g l = true ∧ inY a g i k = a (g.x l) := by
  refine ⟨(puts a g i)[k], ?_, ?_, ?_⟩
  · exact (mem_puts.1 (List.getElem_mem h)).1
  · exact (mem_puts.1 (List.getElem_mem h)).2
  · unfold inY; rw [List.getD_eq_getElem?_getD, List.getElem?_eq_getElem h]; rfl
theorem mem_inY {i l : Nat} (h : l < i) (hp : putB a g l = true) : ∃ k, k < (puts a g i).length ∧ inY a g i k = a (g.x l) := by
  obtain ⟨k, hk, e⟩ := List.getElem_of_mem (mem_puts.2 ⟨h, hp⟩)
  refine ⟨k, hk, ?_⟩
  unfold inY; rw [List.getD_eq_getElem?_getD, List.getElem?_eq_getElem hk, Option.getD_some, e]
theorem inY_more (i : Nat) (h : putB a g i = true) (d : Nat) (hd : d < (puts a g i).length + 1) : (if d = (puts a g i).length then askF (fun _ => a (g.x i)) 0 else askF (inY a g i) d) = askF (inY a g (i + 1)) d := by
  have e : inY a g (i + 1) d = if d = (puts a g i).length then a (g.x i) else inY a g i d := by
    unfold inY
    rw [puts_succ, if_pos h, List.getD_eq_getElem?_getD, List.getElem?_append]
    by_cases e : d = (puts a g i).length
    · subst e
      rw [if_neg (Nat.lt_irrefl _), if_pos rfl, Nat.sub_self]; rfl
    · rw [if_pos (by omega), if_neg e, List.getD_eq_getElem?_getD]
  unfold askF
  rw [e]
  by_cases e : d = (puts a g i).length
  · rw [if_pos e, if_pos e]
  · rw [if_neg e, if_neg e]
/-- A key that was put in is in, with what it names. -/
theorem Fin.isIn (F : Fin a N t g) {i : Nat} (hi : i < (puts a g N).length) : (∃ v ∈ g.C 0, ky g.T v = (inY a g N i).key) ∧ ∀ v ∈ g.C 0, ky g.T v = (inY a g N i).key → (g.T.E v).ref = (inY a g N i).ref := by
  obtain ⟨l, l1, l2, l3⟩ := inY_mem hi
  rw [l3]
  refine ⟨?_, fun v hv e => ?_⟩
  · obtain ⟨v, v1, _, v3, _⟩ := F.mine l1 l2
    exact ⟨v, v1, v3⟩
  · obtain ⟨m, m1, m2, _, m4, m5⟩ := F.who hv
    rw [m5, F.uniq m1 l1 m2 l2 (m4.symm.trans e)]
/-- The keys that are in, in order, are those that were put in. -/
theorem Fin.keyIn (F : Fin a N t g) {i : Nat} (hi : i < (g.C 0).length) : ∃ j, j < (puts a g N).length ∧ (inY a g N j).key = ((g.C 0).map (ky g.T)).getD i ⟨#[]⟩ := by
  have hm : ((g.C 0).map (ky g.T)).getD i ⟨#[]⟩ = ky g.T ((g.C 0)[i]) := by
    rw [List.getD_eq_getElem?_getD, List.getElem?_map, List.getElem?_eq_getElem hi]; rfl
  rw [hm]
  obtain ⟨l, l1, l2, _, l4, _⟩ := F.who (List.getElem_mem hi)
  obtain ⟨j, j1, j2⟩ := mem_inY l1 l2
  exact ⟨j, j1, by rw [j2]; exact l4.symm⟩
theorem Fin.keyRise (F : Fin a N t g) {i : Nat} (hi : i + 1 < (g.C 0).length) : kl (((g.C 0).map (ky g.T)).getD i ⟨#[]⟩) (((g.C 0).map (ky g.T)).getD (i + 1) ⟨#[]⟩) := by
  have e : ∀ j, (hj : j < (g.C 0).length) → ((g.C 0).map (ky g.T)).getD j ⟨#[]⟩ = ky g.T ((g.C 0)[j]) := fun j hj => by
    rw [List.getD_eq_getElem?_getD, List.getElem?_map, List.getElem?_eq_getElem hj]; rfl
  rw [e i (by omega), e (i + 1) hi]
  exact List.pairwise_iff_getElem.1 (F.inv.skp.srt 0 (by omega)) i (i + 1) (by omega) hi (by omega)
end Go.Proofs.YtpckpgdkfimapaaDoor
namespace Go.Proofs.YtpckpgdkfimapaaDoor
open Go Go.RowKit
set_option linter.unusedVariables false

variable {w0 w : World} {a : Nat → SAsk} {N : Nat}

theorem info_ask : (Tryd.prog.info? 37).map (fun i => (i.zero, i.size, i.bytes)) = some (some (.agg #[.int .i64 0, .int .i64 0, .string ⟨#[]⟩, .int .i64 0, .int .i64 0]), 5, 48) := by kernel_rfl
theorem asks_more {o : List Nat} {w5 : World} {v v' : Value} {m : Nat} {y : Nat → SAsk} {x : SAsk} {R : Part} (ob : Obj) (h : Has o w0 w (R.sep (.asks v m y))) (happ : Appended (w.alloc ob) w5 37 5 v v' (m + 1) (flatN m (askF y) ++ askF (fun _ => x) 0)) :
    Has o w0 w5 (R.sep (.rows 37 5 v' (m + 1) fun d => if d = m then askF (fun _ => x) 0 else askF y d)) := by
  obtain ⟨o1, h1, _, _, b1⟩ := h.right
  exact b1 _ _ (Has.rowsMore ob h1 happ)
theorem asks_own {o : List Nat} {v : Value} {m : Nat} {y : Nat → SAsk} {R : Part} (h : Has o w0 w (R.sep (.asks v m y))) : w.ownsRow 0 37 5 v m (flatN m (askF y)) := by
  obtain ⟨o1, h1, _⟩ := h.right
  exact h1.rowsOwn
theorem cells_new' (w : World) (n : Nat) (arr : Array Value) (t : TypeId) (hn : n = w.heap.size) : ∀ j u, arr.toList[j]? = some u → (w.alloc (.cells arr t)).cell? ((⟨n, 0, none⟩ : Addr).add j) = some u := by
  subst hn
  intro j u hu
  rw [addr0]
  simp only [World.cell?, heap_alloc_new]
  rw [← hu, Array.getElem?_toList]
  rfl

/-- How many cells are in use, told. -/
theorem used_all {b : Nat} {T : ASk} {R : Part} {ab us : Nat} (h : Has [] w0 w ((Part.skl b T).sep R)) (e1 : T.ab = ab) (e2 : T.used = 8 + us) :
    Calls Tryd.prog 13 #[.pointer (some ⟨ab, 0, none⟩)] w fun e w' => e = .returned (.int .i64 (8 + (us : Int))) ∧ w' = w := by
  obtain ⟨o1, h1, _⟩ := h.left
  obtain ⟨x, hr, h2⟩ := h1.skOpen
  have := sk_used h2 hr
  rw [e1, e2, show ((8 + us : Nat) : Int) = 8 + (us : Int) by omega] at this
  exact this
/-- The keys, told in order. -/
theorem keys_all {b : Nat} {g : Tg} {t : Int} {R : Part} {m : Nat} (h : Has [] w0 w ((Part.skl b g.T).sep R)) (F : Fin a N t g) (hN : N ≤ 40) (hm : (puts a g N).length = m) :
    Calls Tryd.prog 15 #[.pointer (some ⟨b, 0, none⟩)] w fun e w' => ∃ kp kc st, e = .returned (.slice kp m kc) ∧ Has [] w0 w' (((Part.skl b (g.T.at9 st)).sep (.strs (.slice kp m kc) ((g.C 0).map (ky g.T)))).sep R) := by
  obtain ⟨o1, h1, _, _, b1⟩ := h.left
  refine (skeys_walk h1 F.inv.skp (by have := F.inv.nNle; omega)).mono ?_
  rintro e w' ⟨lv, st, rfl, h'⟩
  obtain ⟨kp, kc, e⟩ := strs_slice (strs_row h')
  have el : ((g.C 0).map (ky g.T)).length = m := by rw [List.length_map, F.count, hm]
  rw [el] at e
  subst e
  exact ⟨kp, kc, st, rfl, b1 _ _ h'⟩
theorem kinds_in {p : Option Addr} (h : AskIn w p N a) : ∀ j, j < N → (-9223372036854775808 ≤ (a j).wk ∧ (a j).wk < 9223372036854775808) ∧ (-9223372036854775808 ≤ (a j).kind ∧ (a j).kind < 9223372036854775808) := fun j hj => by
  obtain ⟨g, off, _, hc⟩ := h (by omega)
  exact (hc j hj).2.2.2.2.2
theorem kinds_y {g : Tg} {t : Int} {m : Nat} (h : ∀ j, j < N → (-9223372036854775808 ≤ (a j).wk ∧ (a j).wk < 9223372036854775808) ∧ (-9223372036854775808 ≤ (a j).kind ∧ (a j).kind < 9223372036854775808)) (F : Fin a N t g) (hm : (puts a g N).length = m) : ∀ k, k < m → (-9223372036854775808 ≤ (inY a g N k).wk ∧ (inY a g N k).wk < 9223372036854775808) ∧ (-9223372036854775808 ≤ (inY a g N k).kind ∧ (inY a g N k).kind < 9223372036854775808) := fun k hk => by
  obtain ⟨l, hl, _, e⟩ := inY_mem (a := a) (g := g) (i := N) (k := k) (by rw [hm]; exact hk)
  rw [e]
  exact h _ (F.key hl).1
theorem sorted_all {b : Nat} {g : Tg} {t : Int} {m : Nat} {st : Int} {kp ip : Option Addr} {kc ic : Nat} (h : Has [] w0 w (((Part.skl b (g.T.at9 st)).sep (.strs (.slice kp m kc) ((g.C 0).map (ky g.T)))).sep (.asks (.slice ip m ic) m (inY a g N)))) (F : Fin a N t g) (hN : N ≤ 40) (hm : (puts a g N).length = m)
    (hr : ∀ j, j < N → (-9223372036854775808 ≤ (a j).wk ∧ (a j).wk < 9223372036854775808) ∧ (-9223372036854775808 ≤ (a j).kind ∧ (a j).kind < 9223372036854775808)) :
    Calls Tryd.prog 14 #[.slice kp m kc, .slice ip m ic] w fun e w' => e = .returned (.bool true) ∧ Kept [] w w' := by
  have hl := puts_len a g N
  have el : ((g.C 0).map (ky g.T)).length = m := by rw [List.length_map, F.count, hm]
  have ec : (g.C 0).length = m := by rw [F.count, hm]
  obtain ⟨o1, h1, _⟩ := h.left
  have hS : StrIn w kp m (fun i => ((g.C 0).map (ky g.T)).getD i ⟨#[]⟩) := by
    have := strs_read (p := kp) (c := kc) (l := (g.C 0).map (ky g.T)) (o := o1) (w0 := w) (w := w) (R := Part.skl b (g.T.at9 st)) (by rw [el]; exact h1)
    rw [el] at this
    exact this
  exact sorted_walk w kp m kc _ ip ic _ hS (asks_read h (kinds_y hr F hm)) (by omega) (fun i hi => by
    obtain ⟨j, j1, j2⟩ := F.keyIn (i := i) (by rw [ec]; exact hi)
    exact ⟨j, by rw [← hm]; exact j1, j2⟩) fun i hi => F.keyRise (by rw [ec]; exact hi)
theorem ask_cells2 {R : Part} {m ic : Nat} {ip : Option Addr} {y : Nat → SAsk} (h : Has [] w0 w (R.sep (.asks (.slice ip m ic) m y))) (hr : ∀ i, i < m → (-9223372036854775808 ≤ (y i).wk ∧ (y i).wk < 9223372036854775808) ∧ (-9223372036854775808 ≤ (y i).kind ∧ (y i).kind < 9223372036854775808)) {j : Nat} (hj : j < m) :
    ∃ ga off, ip = some ⟨ga, off, none⟩ ∧ w.cell? ⟨ga, off + j * 5 + 2, none⟩ = some (.string (y j).key) ∧ w.cell? ⟨ga, off + j * 5 + 3, none⟩ = some (.int .i64 (y j).ref) := by
  obtain ⟨ga, off, e, hc⟩ := asks_read h hr (by omega)
  exact ⟨ga, off, e, (hc j hj).2.2.1, (hc j hj).2.2.2.1⟩

set_option maxHeartbeats 4000000 in
set_option maxRecDepth 100000 in
theorem holds10_law (hT : TabAt w0) {pa pp : Option Addr} {na ca np cp : Nat} {z : Nat → Int} (hA : AskIn w0 pa na a) (hZ : InRow w0 pp np z) (hzr : ∀ i, i < np → -9223372036854775808 ≤ z i ∧ z i < 9223372036854775808) (ha : na ≤ ca) (ha2 : ca ≤ maxLen) (hp : np ≤ cp) (hp2 : cp ≤ maxLen)
    (HTG : ∀ (W : World) (ab b N P : Nat), Has [] w0 W (.skl b (.fresh ab 600 0)) → N ≤ 40 → P ≤ 10000 → AskIn w0 pa N a → InRow w0 pp P z → (∀ i, i < P → -9223372036854775808 ≤ z i ∧ z i < 9223372036854775808) →
      Calls Tryd.prog 8 #[.pointer (some ⟨b, 0, none⟩), .slice pa N ca, .slice pp P cp] W fun e w' => ∃ (lv : Value) (ga gn : Nat) (obs : Nat → Nat) (g : Tg) (t : Int), e = .returned (.tuple #[lv, .bool true]) ∧ g.n = N ∧ (∀ k, k < N → 0 ≤ g.en k) ∧ g.T.ab = ab ∧ TgI a N t g ∧ Has [] w0 w' (.tog b lv ga gn obs a g)) :
    Calls Tryd.prog 4 #[.slice pa na ca, .slice pp np cp] w0 fun e w' => e = .returned (.bool true) ∧ Kept [] w0 w' := by
  have HT := Lib.hid hT
  obtain ⟨N, hNe⟩ : ∃ N, min na 40 = N := ⟨_, rfl⟩
  obtain ⟨P, hPe⟩ : ∃ P, min np 10000 = P := ⟨_, rfl⟩
  have hN : N ≤ 40 ∧ N ≤ na := by omega
  have hP : P ≤ 10000 ∧ P ≤ np := by omega
  have HA := Lib.hid (cut_asks hA hN.2)
  have HZ := Lib.hid (cut_nums hZ hP.2)
  have HZR := Lib.hid (fun i (hi : i < P) => hzr i (by omega))
  have HTH := Lib.hid HTG
  have hx1 : ca ≤ 9223372036854775807 := Nat.le_trans ha2 (by decide)
  have hx2 : cp ≤ 9223372036854775807 := Nat.le_trans hp2 (by decide)
  obtain ⟨hN1, hN2⟩ := hN
  obtain ⟨hP1, hP2⟩ := hP
  have hs1 := slice_asks pa na ca N (by omega)
  have hs2 := slice_nums pp np cp P (by omega)
  have hm1 : min (na : Int) 40 = (N : Int) := by omega
  have hm2 : min (np : Int) 10000 = (P : Int) := by omega
  have HM := Lib.hid (And.intro hs1 (And.intro hs2 (And.intro hm1 hm2)))
  clear hT hA hZ hzr hNe hPe HTG hs1 hs2 hm1 hm2
  go_enter Tryd.func4, Tryd.ntmps4
  go_wp2_with fail
  refine (shown_calls w0 HT.out).mono ?_
  rintro e w1 ⟨rfl, hk⟩
  have HMD := Lib.hid (made_walk w0 w1 HT.out hk)
  clear hk
  go_wp2_with fail
  refine HMD.out.mono ?_
  rintro e w2 ⟨ab, b, rfl, hX⟩
  have HX := Lib.hid hX
  clear hX HMD
  go_wp2_with fail
  obtain ⟨hs1, hs2, hm1, hm2⟩ := HM.out
  go_region_held3 (fun _ => True) (trivial) (first | (go_at_call 8
                                                      refine (HTH.out _ ab b N P (HX.out.quiet ((Kept.refl _ _).drew)) hN1 hP1 HA.out HZ.out HZR.out).mono ?_
                                                      rintro e w3 ⟨lv, ga, gn, obs, g, t, rfl, hgn, hov, hgab, hI, hX3⟩
                                                      have HX3 := Lib.hid hX3
                                                      have HF := Lib.hid (show Fin a N t g from ⟨hI, hgn, hov⟩)
                                                      have HGA := Lib.hid hgab
                                                      clear hX3 hgn hov hI hgab))
  all_goals (
    obtain ⟨lp, lc, rfl⟩ := tog_slice HX3.out
    have HX0 := Lib.hid (HX3.out.beside (Has.rowsNil w3 37 5 (askF (inY a g 0))))
    rw [HF.out.n] at HX0 ⊢
    obtain ⟨i0, hi0, hz0, hz1, hz2⟩ := info_parts info_ask
    have HKI := Lib.hid (kind_in HA.out)
    clear hs1 hs2 hm1 hm2 HM HTH HX3
    go_wp2_with fail
    go_loopg [10, 11, 12] N (fun k uv iv jv wr => ∃ i : Nat, i ≤ N ∧ k = N - i ∧ jv = .int .i64 i ∧ uv = .int .i64 (8 + (sumL (took a g) i : Nat)) ∧ Has [] w0 wr ((Part.tog b (.slice lp N lc) ga gn obs a g).sep (.asks iv (puts a g i).length (inY a g i))))
    case atStart => exact ⟨0, Nat.zero_le _, rfl, rfl, rfl, HX0.out⟩
    case round =>
      clear HX0
      obtain ⟨i, hi, hk, rfl, rfl, hX⟩ := hrel
      obtain ⟨ip, ic, rfl⟩ := asks_slice hX
      have HX := Lib.hid hX
      have HK := Lib.hid hk
      have hpl := puts_len a g i
      have hus := sumL_le (f := took a g) (c := 8) (n := i) fun k _ => took_le a g k
      clear hX hk
      by_cases hlt : i < N
      · have f1 : decide ((i : Int) < (N : Int)) = true := by simp; omega
        have f1' : decide (i < N) = true := by simpa using hlt
        have q3 : 0 ≤ (i : Int) ∧ (i : Int) < (N : Int) := by omega
        obtain ⟨o1, h1, _⟩ := HX.out.left
        obtain ⟨gl, rfl, hm9, hcl⟩ := tf_row h1 HF.out hlt
        have HRC := Lib.hid (tf_ref h1 HF.out hlt (Kept.refl [] wr))
        obtain ⟨_, _, _, _, _, j5, _⟩ := hcl _ (Kept.refl [] wr)
        have HCL := Lib.hid hcl
        have HKD := Lib.hid (fun W => kd_walk HKI.out (HF.out.key hlt).1 W)
        have HLT := Lib.hid hlt
        have h9 : N ≤ 9223372036854775807 := Nat.le_trans hm9 (by decide)
        have hpb : putB a g i = (decide ((a (g.x i)).kd = 0) && !(g.q i).had && decide ((g.q i).code = 0)) := rfl
        have HPB := Lib.hid hpb
        clear h1 hcl hm9 hlt hpb
        go_wp2_with fail
        refine HRC.out.mono ?_
        rintro e w5 ⟨rfl, hk5⟩
        have HX5 := Lib.hid (HX.out.quiet hk5)
        obtain ⟨y0, y1, y2, y3, y4, _⟩ := HCL.out _ hk5
        obtain ⟨kd, hkd⟩ : ∃ kd, (a (g.x i)).kd = kd := ⟨_, rfl⟩
        obtain ⟨hd, hhd⟩ : ∃ hd, (g.q i).had = hd := ⟨_, rfl⟩
        obtain ⟨cd, hcd⟩ : ∃ cd, (g.q i).code = cd := ⟨_, rfl⟩
        rw [hkd] at HKD
        rw [hkd, hhd, hcd] at HPB
        rw [hhd, hcd]
        have HEN := Lib.hid (fun (h9 : putB a g i = false) => show Has [] w0 w5 ((Part.tog b (.slice (some ⟨gl, 0, none⟩) N lc) ga gn obs a g).sep (.asks (.slice ip (puts a g i).length ic) (puts a g (i + 1)).length (inY a g (i + 1)))) ∧ (puts a g (i + 1)).length = (puts a g i).length ∧ sumL (took a g) (i + 1) = sumL (took a g) i from by
          have e9 : puts a g (i + 1) = puts a g i := by rw [puts_succ, if_neg (by rw [h9]; simp), List.append_nil]
          have e8 : inY a g (i + 1) = inY a g i := by unfold inY; rw [e9]
          rw [e9, e8]
          refine ⟨HX5.out, rfl, ?_⟩
          show sumL (took a g) i + took a g i = _
          have : took a g i = 0 := if_neg (by rw [h9]; simp)
          rw [this]; rfl)
        clear hk5 HRC HCL j5 HX hkd hhd hcd
        go_wp2_with fail
        refine (HKD.out _).mono ?_
        rintro e w6 ⟨rfl, rfl⟩
        by_cases hk0 : kd = 0
        · subst hk0
          cases hd with
          | true =>
            have HE := Lib.hid (HEN.out HPB.out)
            clear HEN
            go_wp2_with fail
            go_roundg (N - (i + 1))
            case measure => rw [HK.out]; have := HLT.out; omega
            case rel => exact ⟨i + 1, HLT.out, rfl, by go_num, by rw [HE.out.2.2], HE.out.1⟩
          | false =>
            by_cases hc0 : cd = 0
            · subst hc0
              have HPT := Lib.hid (show putB a g i = true from HPB.out)
              have HROW := Lib.hid ((asks_own HX5.out).alloc (.cells #[.int .i64 (a (g.x i)).wk, .int .i64 (a (g.x i)).kind, .string (a (g.x i)).key, .int .i64 (a (g.x i)).ref, .int .i64 (a (g.x i)).height] 37))
              clear HEN
              go_wp2_with (at_builtin; refine wpList_append_new rfl (.tmp 83) (.tmp 89) 22 rfl 37 i0 (.agg #[.int .i64 0, .int .i64 0, .string ⟨#[]⟩, .int .i64 0, .int .i64 0]) 5 48 Tryd.underlying22 hi0 hz0 hz1 hz2 rfl (by decide) _ _ _ rfl HROW.out ⟨_, 0, none⟩ 1 1 [.int .i64 (a (g.x i)).wk, .int .i64 (a (g.x i)).kind, .string (a (g.x i)).key, .int .i64 (a (g.x i)).ref, .int .i64 (a (g.x i)).height] rfl rfl (cells_new' _ _ _ _ rfl) (by simp [Value.oneCell']) (by simp only [maxLen]; omega) (by omega) ?_)
              intro v' w8 happ
              have h8 := asks_more (x := a (g.x i)) _ HX5.out happ
              have HX8 := Lib.hid (show Has [] w0 w8 ((Part.tog b (.slice (some ⟨gl, 0, none⟩) N lc) ga gn obs a g).sep (.asks v' (puts a g (i + 1)).length (inY a g (i + 1)))) from by
                have e9 : (puts a g (i + 1)).length = (puts a g i).length + 1 := by rw [puts_succ, if_pos HPT.out, List.length_append]; rfl
                rw [e9]
                unfold Part.asks
                rw [← rows_congr (inY_more i HPT.out)]
                exact h8)
              obtain ⟨ip8, ic8, e8⟩ := asks_slice HX8.out
              obtain ⟨o8, h8', _⟩ := HX8.out.left
              obtain ⟨gl8, e9, _, hcl8⟩ := tf_row h8' HF.out HLT.out
              obtain rfl := (Addr.mk.inj (Option.some.inj e9)).1
              obtain ⟨z0, z1, z2, z3, z4, _⟩ := hcl8 _ (Kept.refl [] w8)
              have HSU := Lib.hid (show sumL (took a g) (i + 1) = sumL (took a g) i + (hgt (a (g.x i)).height).toNat from by
                show sumL (took a g) i + took a g i = _
                have : took a g i = (hgt (a (g.x i)).height).toNat := if_pos HPT.out
                rw [this])
              have hg := hgt_range (a (g.x i)).height
              have HHT := Lib.hid (fun (W : World) => height_walk W (a (g.x i)).wk (a (g.x i)).kind (a (g.x i)).ref (a (g.x i)).height (a (g.x i)).key)
              subst e8
              clear h8 happ HX5 h8' e9 hcl8 y0 y1 y2 y3 y4
              go_wp2_with fail
              refine (HHT.out _).mono ?_
              rintro e w9 ⟨rfl, hk9⟩
              have HX9 := Lib.hid (HX8.out.quiet hk9)
              clear hk9 HX8 z0 z1 z2 z3 z4 HHT
              go_wp2_with fail
              go_roundg (N - (i + 1))
              case measure => rw [HK.out]; have := HLT.out; omega
              case rel => exact ⟨i + 1, HLT.out, rfl, by go_num, by
                rw [HSU.out]
                have : ((sumL (took a g) i + (hgt (a (g.x i)).height).toNat : Nat) : Int) = (sumL (took a g) i : Nat) + hgt (a (g.x i)).height := by omega
                rw [this, Int.add_assoc], HX9.out⟩
            · have g1 : (cd == 0) = false := by simpa using hc0
              have g2 : decide (cd = 0) = false := decide_eq_false hc0
              have HE := Lib.hid (HEN.out (by rw [HPB.out, g2]; rfl))
              clear HEN hc0
              go_wp2_with fail
              go_roundg (N - (i + 1))
              case measure => rw [HK.out]; have := HLT.out; omega
              case rel => exact ⟨i + 1, HLT.out, rfl, by go_num, by rw [HE.out.2.2], HE.out.1⟩
        · have g1 : (kd == 0) = false := by simpa using hk0
          have g2 : decide (kd = 0) = false := decide_eq_false hk0
          have HE := Lib.hid (HEN.out (by rw [HPB.out, g2]; rfl))
          clear HEN hk0
          go_wp2_with fail
          go_roundg (N - (i + 1))
          case measure => rw [HK.out]; have := HLT.out; omega
          case rel => exact ⟨i + 1, HLT.out, rfl, by go_num, by rw [HE.out.2.2], HE.out.1⟩
      · obtain rfl : i = N := by omega
        have f1 : decide ((i : Int) < (i : Int)) = false := by simp
        have f1' : decide (i < i) = false := by simp
        clear hlt HK hi
        have HX2 := Lib.hid ((HX.out.weaken (Part.Imp.sep (Part.Imp.fst _ _) (Part.Imp.refl _))).weaken (Part.Imp.sep (Part.Imp.fst _ _) (Part.Imp.refl _)))
        obtain ⟨m, hm⟩ : ∃ m, (puts a g i).length = m := ⟨_, rfl⟩
        obtain ⟨us, hu⟩ : ∃ us, sumL (took a g) i = us := ⟨_, rfl⟩
        rw [hm] at HX2 hpl ⊢
        rw [hu] at hus ⊢
        have HM := Lib.hid hm
        have HUS := Lib.hid (used_all HX2.out HGA.out (show g.T.used = 8 + us from by rw [HF.out.used, hu]))
        have HKY := Lib.hid (keys_all HX2.out HF.out hN1 hm)
        have g1 : ((8 : Int) + (us : Int) != 8 + (us : Int)) = false := by simp
        clear hm hu HX
        go_wp2_with fail
        refine HUS.out.mono ?_
        rintro e w4 ⟨rfl, rfl⟩
        clear HUS HX2
        go_wp2_with fail
        refine HKY.out.mono ?_
        rintro e w5 ⟨kp, kc, st, rfl, hX5⟩
        have HX5 := Lib.hid hX5
        have HSO := Lib.hid (sorted_all (kp := kp) (kc := kc) HX5.out HF.out hN1 HM.out (kinds_in HA.out))
        clear hX5 HKY
        go_wp2_with fail
        refine HSO.out.mono ?_
        rintro e w6 ⟨rfl, hk6⟩
        have HX6 := Lib.hid ((HX5.out.quiet hk6).weaken (Part.Imp.sep (Part.Imp.fst _ _) (Part.Imp.refl _)))
        clear hk6 HSO HX5 g1
        go_wp2_with fail
        go_loopg [17] m (fun k jv wr => ∃ (j : Nat) (st : Int), j ≤ m ∧ k = m - j ∧ jv = .int .i64 j ∧ Has [] w0 wr ((Part.skl b (g.T.at9 st)).sep (.asks (.slice ip m ic) m (inY a g i))))
        case atStart => exact ⟨0, st, Nat.zero_le _, rfl, rfl, HX6.out⟩
        case round =>
          clear HX6
          obtain ⟨j, st2, hj, hk, rfl, hX⟩ := hrel
          have HX := Lib.hid hX
          have HK := Lib.hid hk
          clear hX hk
          by_cases hlt : j < m
          · have f2 : decide ((j : Int) < (m : Int)) = true := by simp; omega
            have f2' : decide (j < m) = true := by simpa using hlt
            have q1 : 0 ≤ (j : Int) ∧ (j : Int) < (m : Int) := by omega
            have HRD := Lib.hid (fun (W : World) (st : Int) (hW : Has [] w0 W ((Part.skl b (g.T.at9 st)).sep (.asks (.slice ip m ic) m (inY a g i)))) => ask_cells2 hW (kinds_y (kinds_in HA.out) HF.out HM.out) hlt)
            obtain ⟨ga2, go2, rfl, c2, _⟩ := HRD.out _ _ HX.out
            obtain ⟨key, hkey⟩ : ∃ key, (inY a g i j).key = key := ⟨_, rfl⟩
            obtain ⟨rf, hrf⟩ : ∃ rf, (inY a g i j).ref = rf := ⟨_, rfl⟩
            obtain ⟨hin1, hin2⟩ := HF.out.isIn (i := j) (by rw [HM.out]; exact hlt)
            rw [hkey] at hin1 hin2 c2
            rw [hrf] at hin2
            have HI1 := Lib.hid hin1
            have HI2 := Lib.hid hin2
            have HLT := Lib.hid hlt
            have HNM := Lib.hid (And.intro hkey hrf)
            clear hin1 hin2 hlt hkey hrf
            go_wp2_with fail
            refine (lookup_walk wr (some ⟨b, 0, none⟩) key).mono ?_
            rintro e w7 ⟨ob, rfl, hO⟩
            have HX7 := Lib.hid ((HX.out.beside hO).weaken (imp_swap3 _ _ _))
            have HDN := Lib.hid (show Calls Tryd.prog 17 #[.pointer (some ⟨ob, 0, none⟩), .int .i64 (32 + 2 * (m : Int))] w7 fun e w' => ∃ r : Nat, e = .returned (.int .i64 ((r : Int) + 1)) ∧ ∃ st q, q.does = 3 ∧ q.had = true ∧ q.code = 0 ∧ q.found = key ∧ (∃ v ∈ g.C 0, ky g.T v = key ∧ q.ref = (g.T.E v).ref) ∧ Has [] w0 w' (((Part.skl b (g.T.at9 st)).sep (.sop ob (some ⟨b, 0, none⟩) q)).sep (.asks (.slice (some ⟨ga2, go2, none⟩) m ic) m (inY a g i))) from by
              have h := look_done (n := m) HT.out HF.out.inv.skp (by have := HF.out.inv.nNle; omega) (by have h1 := HF.out.inv.usedLe; have h2 := HF.out.inv.size; omega) (by have := HF.out.count; rw [HM.out] at this; omega) HI1.out HX7.out (32 + 2 * m) (by omega) (by omega)
              rw [show ((32 + 2 * m : Nat) : Int) = 32 + 2 * (m : Int) by omega] at h
              exact h)
            clear hO HX HX7 c2
            go_wp2_with fail
            refine HDN.out.mono ?_
            rintro e w8 ⟨rr, rfl, st8, q8, d1, d2, d3, d4, ⟨v8, d5, d6, d7⟩, hX8⟩
            have hr8 : q8.ref = rf := by rw [d7]; exact HI2.out v8 d5 d6
            obtain ⟨o8, h8, _⟩ := hX8.left
            obtain ⟨o9, h9, _⟩ := h8.right
            have hRF := ref_walk h9 d1
            rw [d4, hr8, d2, d3] at hRF
            have HRF := Lib.hid hRF
            have HX8 := Lib.hid hX8
            have e1 : decide ((rr : Int) + 1 < 0) = false := decide_eq_false (by omega)
            clear h8 h9 hRF hX8 d1 d2 d3 d4 d5 d6 d7 hr8 HDN
            go_wp2_with fail
            refine HRF.out.mono ?_
            rintro e w9 ⟨rfl, hk9⟩
            have HX9 := Lib.hid ((HX8.out.quiet hk9).weaken (Part.Imp.sep (Part.Imp.fst _ _) (Part.Imp.refl _)))
            obtain ⟨ga3, go3, e3, c2, c3⟩ := HRD.out _ _ HX9.out
            obtain ⟨rfl, rfl⟩ : ga2 = ga3 ∧ go2 = go3 := by simpa using e3
            rw [HNM.out.1] at c2
            rw [HNM.out.2] at c3
            have s1 := str_same key
            have s2 : (rf != rf) = false := by simp
            clear hk9 HRF HX8 e3
            go_wp2_with fail
            go_roundg (m - (j + 1))
            case measure => rw [HK.out]; have := HLT.out; omega
            case rel => exact ⟨j + 1, st8, HLT.out, rfl, by go_num, HX9.out⟩
          · have f2 : decide ((j : Int) < (m : Int)) = false := by simp; omega
            have f2' : decide (j < m) = false := by simpa using hlt
            clear hlt
            go_wp2_with fail
            go_ret
            exact ⟨rfl, HX.out.keeps⟩)
end Go.Proofs.YtpckpgdkfimapaaDoor
namespace Go.Proofs.YtpckpgdkfimapaaDoor
open Go Go.RowKit

theorem holds10_all {w0 : World} {a : Nat → SAsk} (hT : TabAt w0) {pa pp : Option Addr} {na ca np cp : Nat} {z : Nat → Int} (hA : AskIn w0 pa na a) (hZ : InRow w0 pp np z) (hzr : ∀ i, i < np → -9223372036854775808 ≤ z i ∧ z i < 9223372036854775808) (ha : na ≤ ca) (ha2 : ca ≤ maxLen) (hp : np ≤ cp) (hp2 : cp ≤ maxLen) :
    Calls Tryd.prog 4 #[.slice pa na ca, .slice pp np cp] w0 fun e w' => e = .returned (.bool true) ∧ Kept [] w0 w' :=
  holds10_law hT hA hZ hzr ha ha2 hp hp2 (fun _ _ _ _ _ hX hN hP h1 h2 h3 => together_walk hT hX hN hP h1 h2 h3)
end Go.Proofs.YtpckpgdkfimapaaDoor
