/- The walk of the statements' own together: operations of four workers, stepped as picks say, and then in turn until all are done. -/
import Derived.Test.YtpckpgdkfimapaaDoorSkipTogP
import Derived.Deep.CutRange
namespace Go.Proofs.YtpckpgdkfimapaaDoor
open Go Go.RowKit
set_option linter.unusedVariables false

variable {w0 w : World} {b : Nat} {a : Nat → SAsk} {N : Nat}

theorem tab_lt (h : TabAt w) : 0 < w.heap.size := by
  have h1 := h 0 (by decide)
  simp only [World.cell?] at h1
  split at h1
  · rename_i c _ _ hh
    exact (Array.getElem?_eq_some_iff.1 hh).1
  · cases h1
theorem Has.madeFour (w : World) (z : Int) : Has [] w (w.alloc (.cells #[.int .i64 z, .int .i64 z, .int .i64 z, .int .i64 z] 3)) (.blk w.heap.size 4 3 fun _ => .int .i64 z) :=
  Has.madeBlk _ _ _ 4 rfl (fun i hi => match i, hi with | 0, _ => rfl | 1, _ => rfl | 2, _ => rfl | 3, _ => rfl)
theorem many_zero {T : ASk} {o : List Nat} (h : Has o w0 w (.skl b T)) (obs : Nat → Nat) (qs : Nat → ASop) : Has o w0 w (.many b T 0 obs qs) := h.beside (Has.nothing _)

theorem make_four (w : World) : (Instr.makeSlice 23 (.int .i64 4) (.int .i64 4)).run Tryd.prog w = .ok (.slice (some ⟨w.heap.size, 0, none⟩) 4 4) (w.alloc (.cells #[.int .i64 0, .int .i64 0, .int .i64 0, .int .i64 0] 3)) := by kernel_rfl

theorem info_under : (Tryd.prog.info? 40).map (fun i => (i.zero, i.size, i.bytes)) = some (some (.agg #[.int .i64 0, .int .i64 0, .string ⟨#[]⟩, .int .i64 0, .int .i64 0, .pointer none, .int .i64 0, .int .i64 0]), 8, 72) := by kernel_rfl
theorem cells_new (w : World) (n : Nat) (arr : Array Value) (t : TypeId) (hn : n = w.heap.size) : ∀ j u, arr.toList[j]? = some u → (w.alloc (.cells arr t)).cell? ((⟨n, 0, none⟩ : Addr).add j) = some u := by
  subst hn
  intro j u hu
  rw [addr0]
  simp only [World.cell?, heap_alloc_new]
  rw [← hu, Array.getElem?_toList]
  rfl
theorem nowI_none {g : Tg} {v : Nat} (h : g.now v = none) : nowI g v = -1 := by unfold nowI; rw [h]
theorem nowI_some {g : Tg} {v k : Nat} (h : g.now v = some k) : nowI g v = (k : Int) := by unfold nowI; rw [h]

set_option maxHeartbeats 8000000 in
set_option maxRecDepth 100000 in
theorem together_walk (hT : TabAt w0) {ab : Nat} {st : Int} (hX : Has [] w0 w (.skl b (.fresh ab 600 st))) {pa pp : Option Addr} {ca P cp : Nat} (hN : N ≤ 40) (hP : P ≤ 10000) {z : Nat → Int} (hA : AskIn w0 pa N a) (hZ : InRow w0 pp P z) (hzr : ∀ i, i < P → -9223372036854775808 ≤ z i ∧ z i < 9223372036854775808) :
    Calls Tryd.prog 8 #[.pointer (some ⟨b, 0, none⟩), .slice pa N ca, .slice pp P cp] w fun e w' => ∃ (lv : Value) (ga gn : Nat) (obs : Nat → Nat) (g : Tg) (t : Int), e = .returned (.tuple #[lv, .bool true]) ∧ g.n = N ∧ (∀ k, k < N → 0 ≤ g.en k) ∧ g.T.ab = ab ∧ TgI a N t g ∧ Has [] w0 w' (.tog b lv ga gn obs a g) := by
  have HT := Lib.hid hT
  have HX := Lib.hid hX
  have HA := Lib.hid hA
  have HZ := Lib.hid hZ
  have HZR := Lib.hid hzr
  clear hT hX hA hZ hzr
  have hmk := make_four
  obtain ⟨i0, hi0, hz0, hz1, hz2⟩ := info_parts info_under
  obtain ⟨E, hE⟩ : ∃ E : Nat, E = 4 * ((N + 1) * (8 * N + 1)) := ⟨_, rfl⟩
  obtain ⟨D, hD⟩ : ∃ D : Nat, D = E * (N + 32) := ⟨_, rfl⟩
  have hM : (N + 1) * (8 * N + 1) ≤ 41 * 321 := Nat.mul_le_mul (by omega) (by omega)
  have hM2 : E * (N + 32) ≤ 52644 * 72 := Nat.mul_le_mul (by omega) (by omega)
  have hturn : wrap64 (4 * ((N : Int) + 1) * (8 * (N : Int) + 1)) = (E : Int) := by
    have e : 4 * ((N : Int) + 1) * (8 * (N : Int) + 1) = (E : Int) := by
      rw [hE, Int.mul_assoc, Int.natCast_mul, Int.natCast_mul, show ((N + 1 : Nat) : Int) = (N : Int) + 1 by omega, show ((8 * N + 1 : Nat) : Int) = 8 * (N : Int) + 1 by omega]
      rfl
    rw [e]; unfold wrap64; omega
  have hturn2 : wrap64 ((E : Int) * ((N : Int) + 32)) = (D : Int) := by
    have e : (E : Int) * ((N : Int) + 32) = (D : Int) := by
      rw [hD, Int.natCast_mul, show ((N + 32 : Nat) : Int) = (N : Int) + 32 by omega]
    rw [e]; unfold wrap64; omega
  have HTU := Lib.hid (And.intro hturn hturn2)
  have hD0 : D = 4 * ((N + 1) * (8 * N + 1) * (N + 32)) := by rw [hD, hE, Nat.mul_assoc]
  have hD9 : D ≤ 4000000 := by omega
  have HD := Lib.hid hD0
  clear hD hD0 hE hM hM2 hturn hturn2
  obtain ⟨hturn, hturn2⟩ := HTU.out
  go_enter Tryd.func8, Tryd.ntmps8
  go_wp2_with fail
  have h0 := (many_zero HX.out (fun _ => 0) (Tg.none (.fresh ab 600 st)).q).beside ((Has.rowsNil w 40 8 (undF a (fun _ => 0) (Tg.none (.fresh ab 600 st)))).beside ((Has.madeFour w 0).beside (Has.madeFour (w.alloc (.cells #[.int .i64 0, .int .i64 0, .int .i64 0, .int .i64 0] 3)) (-1))))
  have hsz : (w.alloc (.cells #[.int .i64 0, .int .i64 0, .int .i64 0, .int .i64 0] 3)).heap.size = w.heap.size + 1 := Array.size_push _
  rw [hsz] at h0
  have HTG := Lib.hid (show Has [] w0 _ (.tog b (.slice none 0 0) w.heap.size (w.heap.size + 1) (fun _ => 0) a (.none (.fresh ab 600 st))) from h0)
  generalize hga : w.heap.size = ga at *
  have HM := Lib.hid (show Meas a N P (N * (N + 25) + 8 * N * (N + 11)) 0 (.none (.fresh ab 600 st)) from fun v hv => by
    right
    have h1 := lam_none a N ab st v hv
    by_cases h0 : 0 < P
    · exact .inl ⟨h0, h1⟩
    · exact .inr ⟨by omega, by rw [show P = 0 by omega]; omega⟩)
  rw [hturn, hturn2]
  clear hsz h0 hmk HTU hturn hturn2
  go_loopg [8, 12] (P + D) (fun k lv iv wr => ∃ (i : Nat) (obs : Nat → Nat) (g : Tg), i ≤ P + D ∧ k = P + D - i ∧ iv = .int .i64 i ∧ g.T.ab = ab ∧ TgI a N i g ∧ Meas a N P (N * (N + 25) + 8 * N * (N + 11)) i g ∧ Has [] w0 wr (.tog b lv ga (ga + 1) obs a g))
  case atStart => exact ⟨0, _, _, Nat.zero_le _, rfl, rfl, rfl, TgI.none a N ab st, HM.out, HTG.out⟩
  case round =>
    clear HX HM HTG
    obtain ⟨i, obs, g, hi, hk, rfl, hab, hI, hMs, hX⟩ := hrel
    have HAB := Lib.hid hab
    clear hab
    obtain ⟨lp, lc, rfl⟩ := tog_slice hX
    have HI := Lib.hid hI
    have HM := Lib.hid hMs
    have HX := Lib.hid hX
    have HK := Lib.hid hk
    clear hI hMs hX hk
    by_cases hlt : i < P + D
    · have d1 : decide ((i : Int) < (P : Int) + (D : Int)) = true := by simp; omega
      have d1' : decide (i < P + D) = true := by simpa using hlt
      obtain ⟨v, hv, hvP, hvT, hwk⟩ : ∃ v, v < 4 ∧ (P ≤ i → v = i % 4) ∧ ((i < P → wkN (z i) = v)) ∧ (P ≤ i → (i : Int) % 4 = (v : Int)) := by
        by_cases hiP : i < P
        · exact ⟨wkN (z i), wkN_lt _, fun h => by omega, fun _ => rfl, fun h => by omega⟩
        · exact ⟨i % 4, Nat.mod_lt _ (by omega), fun _ => rfl, fun h => absurd h hiP, fun _ => rfl⟩
      have HVP := Lib.hid hvP
      have HVT := Lib.hid hvT
      have HWK := Lib.hid hwk
      clear hvP hvT hwk
      obtain ⟨hc1, hz1, hput1⟩ := tg_now HX.out hv
      have HC1 := Lib.hid hc1
      clear hc1 hz1 hput1
      have hcase : (decide ((i : Int) < (P : Int)) = true ∧ decide (i < P) = true ∧ i < P) ∨ (decide ((i : Int) < (P : Int)) = false ∧ decide (i < P) = false ∧ P ≤ i) := by
        by_cases h : i < P
        · left; simp; omega
        · right; simp; omega
      have HCS := Lib.hid hcase
      clear hcase
      go_upto_if 43 with fail
      go_cut [13] from 30 to 175 (fun s13 wx => s13 = .int .i64 (v : Int) ∧ wx = wr)
      case first =>
        rcases HCS.out with ⟨e1, e2, hiP⟩ | ⟨e1, e2, hiP⟩
        · obtain ⟨gp, op, rfl, hzc⟩ := HZ.out.cell HX.out.keeps hiP
          have q1 : 0 ≤ (i : Int) ∧ (i : Int) < (P : Int) := by omega
          have HPK := Lib.hid (fun (W : World) => pick_walk W (z i) 4 (HZR.out i hiP).1 (HZR.out i hiP).2 (by omega) (by omega))
          have hw1 : pkI (z i) 4 = (v : Int) := by rw [← wkN_eq, HVT.out hiP]
          have HW1 := Lib.hid hw1
          have h9 : P ≤ 9223372036854775807 := by omega
          clear hiP hw1
          go_wp2_with fail
          refine (HPK.out _).mono ?_
          rintro e w5 ⟨rfl, rfl⟩
          rw [HW1.out]
          go_wp2_with fail
          go_meet
          exact ⟨rfl, rfl⟩
        · have hw1 := HWK.out hiP
          have hiP2 : ¬ i < P := by omega
          clear hiP
          go_wp2_with fail
          rw [hw1]
          go_meet
          exact ⟨rfl, rfl⟩
      case rest =>
        obtain ⟨rfl, rfl⟩ := hcut
        clear HVT HWK
        have q1 : 0 ≤ (v : Int) ∧ (v : Int) < ((4 : Nat) : Int) := by omega
        have q2 : 0 ≤ (v : Int) ∧ (v : Int) < 4 := by omega
        have hi9 : i ≤ 9223372036854775807 := by omega
        cases hnow : g.now v with
        | some k =>
          as_aux_lemma =>
            obtain ⟨hkn, hkw, hke⟩ := HI.out.now v hv k hnow
            have c1 : wc.cell? ⟨ga + 1, v, none⟩ = some (.int .i64 (k : Int)) := by
              rw [HC1.out]; unfold nowF nowI; rw [hnow]
            have e1 : decide ((k : Int) < 0) = false := by simp
            obtain ⟨gl, cap, he, hcl, hmx⟩ := tog_row HX.out hkn
            obtain ⟨rfl, rfl⟩ : lp = some ⟨gl, 0, none⟩ ∧ lc = cap := by simpa using he
            have c2 := hcl 5 _ rfl
            have q3 : 0 ≤ (k : Int) ∧ (k : Int) < (g.n : Int) := by omega
            have hn9 : g.n ≤ 9223372036854775807 := Nat.le_trans hmx (by decide)
            have HST := Lib.hid (tog_step HX.out hkn HT.out (HI.out.ok hN hkn hke) (tab_lt HT.out))
            obtain ⟨g', hS⟩ := HI.out.stepped hv hnow
            have HS := Lib.hid hS
            have HN := Lib.hid hnow
            have HKN := Lib.hid hkn
            clear HC1 hcl he hS hnow hkn hkw hke HX hmx HCS
            go_wp2_with fail
            refine HST.out.mono ?_
            rintro e w2 ⟨rfl, hX2⟩
            have HX2 := Lib.hid hX2
            clear hX2 HST
            cases hdn : (stepS g.T (g.q k)).2.2
            · obtain ⟨s1, s2, s3⟩ : False = False ∧ g'.en = g.en ∧ g'.now = g.now := by
                rcases HS.out.en with ⟨_, e1, e2⟩ | ⟨e1, _⟩
                · exact ⟨rfl, e1, e2⟩
                · rw [hdn] at e1; cases e1
              have HX3 := Lib.hid (tog_next (g' := g') (a := a) HX2.out HS.out.T HS.out.n HS.out.q (fun d _ => undF_same a obs g g' HS.out.x HS.out.bg s2 d) (fun d _ => by unfold posF; rw [HS.out.pos]) (fun d _ => by unfold nowF nowI; rw [s3]))
              have HEN := Lib.hid HS.out.n
              clear HX2 s1 s2 s3
              go_wp2_with fail
              go_roundg (P + D - (i + 1))
              case measure => rw [HK.out]; omega
              case rel => exact ⟨i + 1, obs, g', by omega, rfl, by go_num, by rw [HS.out.T, stepS_ab]; exact HAB.out, HS.out.inv.cast, HM.out.turn (Turned.ofStep HS.out HN.out) HVP.out, HX3.out⟩
            · obtain ⟨s1, s2, s3⟩ : False = False ∧ g'.en = updA g.en k i ∧ g'.now = updA g.now v none := by
                rcases HS.out.en with ⟨e1, _⟩ | ⟨_, e1, e2⟩
                · rw [hdn] at e1; cases e1
                · exact ⟨rfl, e1, e2⟩
              obtain ⟨c3, z3, _⟩ := tg_now HX2.out hv
              have c4 : w2.cell? ⟨ga + 1, v, none⟩ = some (.int .i64 (k : Int)) := by
                rw [c3]; unfold nowF nowI; rw [HN.out]
              obtain ⟨gl2, cap2, he2, hcl2, hz6, _, hput2⟩ := tg_row HX2.out HKN.out
              obtain ⟨rfl, rfl⟩ : gl = gl2 ∧ lc = cap2 := by simpa using he2
              have hX3 := hput2 (.int .i64 (i : Int))
              have c5 := hcl2 7 _ rfl
              obtain ⟨c6, z4, hput4⟩ := tg_now hX3 hv
              have hX4 := hput4 (.int .i64 (-1))
              have HX4 := Lib.hid (tog_next (g' := g') (a := a) hX4 HS.out.T HS.out.n HS.out.q (fun d _ => undF_end a obs g g' k i HS.out.x HS.out.bg s2 d) (fun d _ => by unfold posF; rw [HS.out.pos]) (fun d _ => nowF_end g g' v s3 d))
              clear HX2 s1 s2 s3 c3 z3 he2 hcl2 hput2 hX3 hput4 hX4
              go_wp2_with fail
              go_roundg (P + D - (i + 1))
              case measure => rw [HK.out]; omega
              case rel => exact ⟨i + 1, obs, g', by omega, rfl, by go_num, by rw [HS.out.T, stepS_ab]; exact HAB.out, HS.out.inv.cast, HM.out.turn (Turned.ofStep HS.out HN.out) HVP.out, HX4.out⟩
        | none =>
          have c1 : wc.cell? ⟨ga + 1, v, none⟩ = some (.int .i64 (-1)) := by
            rw [HC1.out]; unfold nowF nowI; rw [hnow]
          have HN := Lib.hid hnow
          clear hnow HC1
          go_wp2_with fail
          go_loopg [] (N - g.pos v) (fun k wr => ∃ p : Nat, g.pos v ≤ p ∧ p ≤ N ∧ k = N - p ∧ unb a N v p = unb a N v (g.pos v) ∧ Has [] w0 wr (.tog b (.slice lp g.n lc) ga (ga + 1) obs a (g.skip v p)))
          case atStart => exact ⟨g.pos v, Nat.le_refl _, HI.out.pos v hv, rfl, rfl, by rw [skip_same]; exact HX.out⟩
          case round =>
            clear HX c1
            obtain ⟨p, hp1, hp2, hk2, hu, hX⟩ := hrel
            obtain ⟨c2, z2, hput2⟩ := tg_pos hX hv
            have c3 : wr.cell? ⟨ga, v, none⟩ = some (.int .i64 (p : Int)) := by
              rw [c2]; unfold posF; rw [show (g.skip v p).pos v = p from updA_at _ _ _]
            have HU := Lib.hid hu
            have HX := Lib.hid hX
            have HP2 := Lib.hid hput2
            have HK2 := Lib.hid hk2
            clear c2 hu hX hput2 hk2
            by_cases hpN : p < N
            · obtain ⟨ag, off, rfl, hac⟩ := (HA.out.kept HX.out.keeps) (by omega)
              obtain ⟨a0, a1, a2, a3, a4, ar, ak⟩ := hac p hpN
              have f1 : decide ((p : Int) < (N : Int)) = true := by simp; omega
              have f1' : decide (p < N) = true := by simpa using hpN
              have q3 : 0 ≤ (p : Int) ∧ (p : Int) < (N : Int) := by omega
              have HPK := Lib.hid (fun (W : World) => pick_walk W (a p).wk 4 ar.1 ar.2 (by omega) (by omega))
              have HAK := Lib.hid ak
              rw [← wkN_eq] at HPK
              clear ar ak
              by_cases hwv : wkN (a p).wk = v
              · rw [hwv] at HPK
                have g0 : ((v : Int) != (v : Int)) = false := by simp
                have g0' : (v != v) = false := by simp
                have g1 : ((p : Int) == (N : Int)) = false := by simp; omega
                have g1' : (p == N) = false := by simp; omega
                have g2 : decide ((p : Int) = (N : Int)) = false := by simp; omega
                have g2' : decide (p = N) = false := by simp; omega
                obtain ⟨x1, x2, x3⟩ := tg_now HX.out hv
                have HX1 := Lib.hid (x3 (.int .i64 (g.n : Nat)))
                have HPN := Lib.hid hpN
                have HWV := Lib.hid hwv
                clear x3 hac hpN hwv HP2 HCS
                go_wp2_with fail
                refine (HPK.out _).mono ?_
                rintro e w5 ⟨rfl, rfl⟩
                go_upto_region 18 with fail
                generalize hW1 : w5.setCell ⟨ga + 1, v, none⟩ (.int .i64 (g.n : Int)) = W1 at *
                go_cut [8] from 30 to 175 (fun s8 wx => ∃ (ob : Nat) (lp2 : Option Addr) (lc2 : Nat), s8 = .slice lp2 (g.n + 1) lc2 ∧ Has [] w0 wx (.tg (.many b g.T (g.n + 1) (fun j => if j = g.n then ob else obs j) (updA g.q g.n (a p).op)) s8 (g.n + 1) (fun d => if d = g.n then [.int .i64 (a p).wk, .int .i64 (a p).kind, .string (a p).key, .int .i64 (a p).ref, .int .i64 (a p).height, .pointer (some ⟨ob, 0, none⟩), .int .i64 (i : Int), .int .i64 (-1)] else undF a obs (g.skip v p) d) ga (ga + 1) (posF (g.skip v p)) (upd (nowF (g.skip v p)) v (.int .i64 (g.n : Nat)))))
                case first =>
                  have hX1d := HX1.out.quiet ((Kept.refl [] W1).drew)
                  obtain ⟨y0, _, _⟩ := tg_pos HX1.out hv
                  have b0 : W1.cell? ⟨ga, v, none⟩ = some (.int .i64 (p : Int)) := by
                    rw [y0]; unfold posF; rw [show (g.skip v p).pos v = p from updA_at _ _ _]
                  obtain ⟨ag', off', he', hac⟩ := (HA.out.kept HX1.out.keeps) (by have := HPN.out; omega)
                  obtain ⟨rfl, rfl⟩ : ag = ag' ∧ off = off' := by simpa using he'
                  obtain ⟨b1, b2, b3, b4, b5, _⟩ := hac p HPN.out
                  have HX1D := Lib.hid hX1d
                  have hn9 : g.n ≤ 60 := Nat.le_trans HI.out.nLe (by omega)
                  clear y0 hac he' hX1d a0 a1 a2 a3 a4 x1 x2 hW1 c3 z2
                  go_region_law
                    (first | (go_simp
                              go_at_call 23
                              refine (begun_walk _ _ (a p) HAK.out.1 HAK.out.2).mono ?_
                              rintro e w6 ⟨ob, rfl, hO⟩
                              obtain ⟨o5, h5, _, bk5⟩ := tg_ops HX1D.out
                              have hX5 := bk5 _ _ (many_more h5 hO)
                              obtain ⟨y5, _, _⟩ := tg_pos hX5 hv
                              have d0 : w6.cell? ⟨ga, v, none⟩ = some (.int .i64 (p : Int)) := by
                                rw [y5]; unfold posF; rw [show (g.skip v p).pos v = p from updA_at _ _ _]
                              obtain ⟨ag', off', he', hac⟩ := (HA.out.kept hX5.keeps) (by have := HPN.out; omega)
                              obtain ⟨rfl, rfl⟩ : ag = ag' ∧ off = off' := by simpa using he'
                              obtain ⟨d1, d2, d3, d4, d5, _⟩ := hac p HPN.out
                              have HX5 := Lib.hid hX5
                              clear y5 hac he' hX5 h5 bk5 hO)
                           | (obtain ⟨o3, h3, bk3⟩ := tg_rows HX5.out
                              refine step_append_new rfl (.tmp 128) (.tmp 147) 29 rfl 40 i0 (.agg #[.int .i64 0, .int .i64 0, .string ⟨#[]⟩, .int .i64 0, .int .i64 0, .pointer none, .int .i64 0, .int .i64 0]) 8 72 Tryd.underlying29 hi0 hz0 hz1 hz2 rfl (by decide) (.slice lp g.n lc) g.n (flatN g.n (undF a obs (g.skip v p))) rfl (h3.rowsOwn.alloc _) ⟨w6.heap.size, 0, none⟩ 1 1 [.int .i64 (a p).wk, .int .i64 (a p).kind, .string (a p).key, .int .i64 (a p).ref, .int .i64 (a p).height, .pointer (some ⟨ob, 0, none⟩), .int .i64 (i : Int), .int .i64 (-1)] rfl rfl (cells_new w6 w6.heap.size _ _ rfl) (by simp [Value.oneCell']) (by simp only [maxLen]; omega) (by omega) ?_
                              intro v' w7 happ
                              have hX6 := bk3 _ _ _ _ (Has.rowsMore _ h3 happ)
                              obtain ⟨lp2, lc2, rfl⟩ : ∃ lp2 lc2, v' = .slice lp2 (g.n + 1) lc2 := by
                                rcases rowN_open happ.row with ⟨_, h0⟩ | ⟨gv, vc, e, _⟩
                                · omega
                                · exact ⟨_, vc, e⟩
                              have HX6 := Lib.hid hX6
                              clear hX6 happ h3 bk3))
                  all_goals (
                    go_wp2_with fail
                    go_meet
                    exact ⟨ob, lp2, lc2, rfl, HX6.out⟩)
                case rest =>
                  obtain ⟨ob, lp2, lc2, rfl, hX6⟩ := hcut
                  obtain ⟨y6, z6, hput6⟩ := tg_pos hX6 hv
                  have c6 : wc.cell? ⟨ga, v, none⟩ = some (.int .i64 (p : Int)) := by
                    rw [y6]; unfold posF; rw [show (g.skip v p).pos v = p from updA_at _ _ _]
                  obtain ⟨t1, t2⟩ := Turned.ofBegin HI.out hv HN.out hp1 HPN.out HU.out HWV.out
                  have HT1 := Lib.hid t1
                  have HT2 := Lib.hid t2
                  have ep : (g.skip v p).pos v = p := updA_at _ _ _
                  have HX7 := Lib.hid (tog_next (g' := (g.skip v p).begin a i v) (a := a) (hput6 (.int .i64 ((p + 1 : Nat) : Int))) rfl rfl
                    (show updA g.q g.n (a ((g.skip v p).pos v)).op = updA g.q g.n (a p).op by rw [ep])
                    (fun d hd => by have := undF_begin a obs ob (g.skip v p) i v d hd; rw [ep] at this; exact this)
                    (fun d _ => by have := posF_begin (g.skip v p) a i v d; rw [ep] at this; exact this)
                    (fun d _ => nowF_begin (g.skip v p) a i v d))
                  clear y6 hput6 hX6 t1 t2 HX1 x1 x2 c3 z2 hW1 a0 a1 a2 a3 a4
                  have HEP := Lib.hid ep
                  clear ep
                  go_wp2_with fail
                  go_roundg (P + D - (i + 1))
                  case measure => rw [HK.out]; omega
                  case rel => exact ⟨i + 1, _, (g.skip v p).begin a i v, by omega, rfl, by go_num, HAB.out, HT1.out.cast, HM.out.turn HT2.out HVP.out, HX7.out⟩
              · have hsk : unb a N v (p + 1) = unb a N v (g.pos v) := by rw [unb_skip a N v p hpN hwv]; exact HU.out
                have hne : ¬ ((wkN (a p).wk : Int) = (v : Int)) := by omega
                generalize wkN (a p).wk = u at *
                have g1 : ((u : Int) == (v : Int)) = false := by simpa using hne
                have g1' : (u == v) = false := by simpa using hwv
                have g2 : decide ((u : Int) = (v : Int)) = false := by simpa using hne
                have g2' : decide (u = v) = false := by simpa using hwv
                have g3 : ((u : Int) != (v : Int)) = true := by simpa using hne
                have g3' : (u != v) = true := by simpa using hwv
                have HSK := Lib.hid hsk
                have HXN := Lib.hid (tog_next (g' := g.skip v (p + 1)) (a := a) (HP2.out (.int .i64 ((p + 1 : Nat) : Int))) rfl rfl rfl (fun _ _ => rfl) (fun d _ => by rw [posF_upd, skip_skip]) (fun _ _ => rfl))
                clear hac hsk HP2 HCS
                go_wp2_with fail
                refine (HPK.out _).mono ?_
                rintro e w5 ⟨rfl, rfl⟩
                go_wp2_with fail
                go_roundg (N - (p + 1))
                case measure => rw [HK2.out]; omega
                case rel => exact ⟨p + 1, by omega, by omega, rfl, HSK.out, HXN.out⟩
            · obtain rfl : p = N := by omega
              have f1 : decide (p < p) = false := by simp
              have f1' : decide ((p : Int) < (p : Int)) = false := by simp
              obtain ⟨t1, t2⟩ := Turned.ofIdle HI.out hv HN.out HU.out
              have HT1 := Lib.hid t1
              have HT2 := Lib.hid t2
              clear HP2 t1 t2
              as_aux_lemma =>
                rcases HCS.out with ⟨t1, t2, hiP⟩ | ⟨t1, t2, hiP⟩
                · have t3 : decide ((P : Int) ≤ (i : Int)) = false := by simp; omega
                  have t3' : decide (P ≤ i) = false := by simp; omega
                  clear hiP
                  go_wp2_with fail
                  go_roundg (P + D - (i + 1))
                  case measure => rw [HK.out]; omega
                  case rel => exact ⟨i + 1, obs, g.skip v p, by omega, rfl, by go_num, HAB.out, HT1.out.cast, HM.out.turn HT2.out HVP.out, HX.out⟩
                · have t3 : decide ((P : Int) ≤ (i : Int)) = true := by simp; omega
                  have t3' : decide (P ≤ i) = true := by simp; omega
                  clear hiP
                  by_cases hgn : g.n = p
                  · have t4 : ((g.n : Int) == (p : Int)) = true := by simp [hgn]
                    have t4' : (g.n == p) = true := by simp [hgn]
                    have t5 : decide ((g.n : Int) = (p : Int)) = true := by simp [hgn]
                    have t5' : decide (g.n = p) = true := by simp [hgn]
                    have HGN := Lib.hid hgn
                    obtain ⟨y0, _, _⟩ := tg_now HX.out (v := 0) (by omega)
                    obtain ⟨y1, _, _⟩ := tg_now HX.out (v := 1) (by omega)
                    obtain ⟨y2, _, _⟩ := tg_now HX.out (v := 2) (by omega)
                    obtain ⟨y3, _, _⟩ := tg_now HX.out (v := 3) (by omega)
                    replace y0 : wr.cell? ⟨ga + 1, 0, none⟩ = some (.int .i64 (nowI g 0)) := y0
                    replace y1 : wr.cell? ⟨ga + 1, 1, none⟩ = some (.int .i64 (nowI g 1)) := y1
                    replace y2 : wr.cell? ⟨ga + 1, 2, none⟩ = some (.int .i64 (nowI g 2)) := y2
                    replace y3 : wr.cell? ⟨ga + 1, 3, none⟩ = some (.int .i64 (nowI g 3)) := y3
                    clear hgn
                    cases hw0 : g.now 0 with
                    | some k0 =>
                      rw [nowI_some hw0] at y0
                      have u0 : decide ((k0 : Int) < 0) = false := by simp
                      clear hw0
                      clear y1
                      clear y2
                      clear y3
                      go_wp2_with fail
                      go_roundg (P + D - (i + 1))
                      case measure => rw [HK.out]; omega
                      case rel => exact ⟨i + 1, obs, g.skip v p, by omega, rfl, by go_num, HAB.out, HT1.out.cast, HM.out.turn HT2.out HVP.out, HX.out⟩
                    | none =>
                      rw [nowI_none hw0] at y0
                      have HW0 := Lib.hid hw0
                      clear hw0
                      cases hw1 : g.now 1 with
                      | some k1 =>
                        rw [nowI_some hw1] at y1
                        have u1 : decide ((k1 : Int) < 0) = false := by simp
                        clear hw1
                        clear y2
                        clear y3
                        go_wp2_with fail
                        go_roundg (P + D - (i + 1))
                        case measure => rw [HK.out]; omega
                        case rel => exact ⟨i + 1, obs, g.skip v p, by omega, rfl, by go_num, HAB.out, HT1.out.cast, HM.out.turn HT2.out HVP.out, HX.out⟩
                      | none =>
                        rw [nowI_none hw1] at y1
                        have HW1 := Lib.hid hw1
                        clear hw1
                        cases hw2 : g.now 2 with
                        | some k2 =>
                          rw [nowI_some hw2] at y2
                          have u2 : decide ((k2 : Int) < 0) = false := by simp
                          clear hw2
                          clear y3
                          go_wp2_with fail
                          go_roundg (P + D - (i + 1))
                          case measure => rw [HK.out]; omega
                          case rel => exact ⟨i + 1, obs, g.skip v p, by omega, rfl, by go_num, HAB.out, HT1.out.cast, HM.out.turn HT2.out HVP.out, HX.out⟩
                        | none =>
                          rw [nowI_none hw2] at y2
                          have HW2 := Lib.hid hw2
                          clear hw2
                          cases hw3 : g.now 3 with
                          | some k3 =>
                            rw [nowI_some hw3] at y3
                            have u3 : decide ((k3 : Int) < 0) = false := by simp
                            clear hw3
                            go_wp2_with fail
                            go_roundg (P + D - (i + 1))
                            case measure => rw [HK.out]; omega
                            case rel => exact ⟨i + 1, obs, g.skip v p, by omega, rfl, by go_num, HAB.out, HT1.out.cast, HM.out.turn HT2.out HVP.out, HX.out⟩
                          | none =>
                            rw [nowI_none hw3] at y3
                            have HW3 := Lib.hid hw3
                            clear hw3
                            have HOV := Lib.hid (fun k (hk : k < p) => show 0 ≤ (g.skip v p).en k from by
                              rcases Int.lt_or_le (g.en k) 0 with h1 | h1
                              · have h2 := (HI.out.go k (by rw [HGN.out]; exact hk) h1).2.1
                                have h3 := wkN_lt (a (g.x k)).wk
                                rcases (by omega : wkN (a (g.x k)).wk = 0 ∨ wkN (a (g.x k)).wk = 1 ∨ wkN (a (g.x k)).wk = 2 ∨ wkN (a (g.x k)).wk = 3) with e | e | e | e
                                · rw [e, HW0.out] at h2; cases h2
                                · rw [e, HW1.out] at h2; cases h2
                                · rw [e, HW2.out] at h2; cases h2
                                · rw [e, HW3.out] at h2; cases h2
                              · exact h1)
                            go_wp2_with fail
                            go_ret2
                            exact ⟨_, ga, ga + 1, obs, g.skip v p, i + 1, rfl, HGN.out, HOV.out, HAB.out, HT1.out, HX.out⟩
                  · have t4 : ((g.n : Int) == (p : Int)) = false := by simp; omega
                    have t4' : (g.n == p) = false := by simp; omega
                    have t5 : decide ((g.n : Int) = (p : Int)) = false := by simp; omega
                    have t5' : decide (g.n = p) = false := by simp; omega
                    clear hgn
                    go_wp2_with fail
                    go_roundg (P + D - (i + 1))
                    case measure => rw [HK.out]; omega
                    case rel => exact ⟨i + 1, obs, g.skip v p, by omega, rfl, by go_num, HAB.out, HT1.out.cast, HM.out.turn HT2.out HVP.out, HX.out⟩
    · have d1 : decide ((i : Int) < (P : Int) + (D : Int)) = false := by simp; omega
      have d1' : decide (i < P + D) = false := by simpa using hlt
      have hiE : i = P + 4 * ((N + 1) * (8 * N + 1) * (N + 32)) := by have := HD.out; omega
      have hidle : ∀ v, v < 4 → Idle a N g v := by
        have h9 := HM.out
        rw [hiE] at h9
        exact fun v hv => h9.last (.inl (turns_enough N)) v hv
      obtain ⟨hn, hov⟩ := HI.out.allBegun hidle
      have HOV := Lib.hid hov
      have HN := Lib.hid hn
      have t4 : ((g.n : Int) == (N : Int)) = true := by simp [hn]
      have t4' : (g.n == N) = true := by simp [hn]
      have t5 : decide ((g.n : Int) = (N : Int)) = true := by simp [hn]
      have t5' : decide (g.n = N) = true := by simp [hn]
      obtain ⟨y0, _, _⟩ := tg_now HX.out (v := 0) (by omega)
      obtain ⟨y1, _, _⟩ := tg_now HX.out (v := 1) (by omega)
      obtain ⟨y2, _, _⟩ := tg_now HX.out (v := 2) (by omega)
      obtain ⟨y3, _, _⟩ := tg_now HX.out (v := 3) (by omega)
      replace y0 : wr.cell? ⟨ga + 1, 0, none⟩ = some (.int .i64 (-1)) := by rw [y0]; unfold nowF; rw [nowI_none (hidle 0 (by omega)).1]
      replace y1 : wr.cell? ⟨ga + 1, 1, none⟩ = some (.int .i64 (-1)) := by rw [y1]; unfold nowF; rw [nowI_none (hidle 1 (by omega)).1]
      replace y2 : wr.cell? ⟨ga + 1, 2, none⟩ = some (.int .i64 (-1)) := by rw [y2]; unfold nowF; rw [nowI_none (hidle 2 (by omega)).1]
      replace y3 : wr.cell? ⟨ga + 1, 3, none⟩ = some (.int .i64 (-1)) := by rw [y3]; unfold nowF; rw [nowI_none (hidle 3 (by omega)).1]
      clear hidle hov hiE hn
      go_wp2_with fail
      go_quiet (fail)
      go_wp2_with fail
      go_ret2
      exact ⟨_, ga, ga + 1, obs, g, i, rfl, HN.out, fun k hk => HOV.out k (by rw [HN.out]; exact hk), HAB.out, HI.out, HX.out.quiet ((Kept.refl [] _).drewN _)⟩
end Go.Proofs.YtpckpgdkfimapaaDoor
