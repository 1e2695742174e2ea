/- The walk of the statements' own together: operations of four workers, stepped as picks say, and then in turn.
The walk of the statements' own 'shown', and of 'made'.
The walk of HashBuckets: true at all numbers and keys, and nothing that was there has changed. -/
import Derived.Test.YtmldighidbfhhaaDoorMHol7
import Derived.Deep.CutRange
import Derived.Test.YtmldighidbfhhaaDoorMHol5
namespace Go.Proofs.YtmldighidbfhhaaDoor
open Go Go.RowKit
set_option linter.unusedVariables false

variable {w0 w : World} {b : Nat} {a : Nat → HAsk} {N : Nat}

theorem tab_lt (h : TabAt w) : 0 < w.heap.size := by
  have h1 := h 0 (by decide)
  simp only [World.cell?] at h1
  split at h1
  · rename_i c _ _ hh
    exact (Array.getElem?_eq_some_iff.1 hh).1
  · cases h1
theorem Has.madeFour (w : World) : Has [] w (w.alloc (.cells #[.int .i64 0, .int .i64 0, .int .i64 0, .int .i64 0] 3)) (.blk w.heap.size 4 3 fun _ => .int .i64 0) :=
  Has.madeBlk _ _ _ 4 rfl (fun i hi => match i, hi with | 0, _ => rfl | 1, _ => rfl | 2, _ => rfl | 3, _ => rfl)
theorem many_zero {T : AHt} {o : List Nat} (h : Has o w0 w (.table b T)) (obs : Nat → Nat) (qs : Nat → AHop) : Has o w0 w (.many b T 0 obs qs) := h.beside (Has.nothing _)

theorem look_ab (T : AHt) (q : AHop) : (lookS T q).1.ab = T.ab := by
  unfold lookS
  split
  · split
    · split <;> rfl
    · rfl
  · split
    · dsimp only
      split <;> rfl
    · rfl
theorem hstep_ab (T : AHt) (q : AHop) : (hstep T q).1.ab = T.ab := by
  unfold hstep
  split
  · rfl
  split
  · rfl
  split
  · exact look_ab _ _
  split
  · exact look_ab _ _
  split
  · rfl
  split <;> rfl
theorem make_four (w : World) : (Instr.makeSlice 34 (.int .i64 4) (.int .i64 4)).run Tryd.prog w = .ok (.slice (some ⟨w.heap.size, 0, none⟩) 4 4) (w.alloc (.cells #[.int .i64 0, .int .i64 0, .int .i64 0, .int .i64 0] 3)) := by kernel_rfl

theorem info_under : (Tryd.prog.info? 44).map (fun i => (i.zero, i.size, i.bytes)) = some (some (.agg #[.int .i64 0, .bool false, .string ⟨#[]⟩, .int .i64 0, .pointer none, .int .i64 0, .int .i64 0]), 7, 64) := by kernel_rfl
theorem cells_new (w : World) (n : Nat) (arr : Array Value) (t : TypeId) (hn : n = w.heap.size) : ∀ j u, arr.toList[j]? = some u → (w.alloc (.cells arr t)).cell? ((⟨n, 0, none⟩ : Addr).add j) = some u := by
  subst hn
  intro j u hu
  rw [addr0]
  simp only [World.cell?, heap_alloc_new]
  rw [← hu, Array.getElem?_toList]
  rfl

set_option maxHeartbeats 8000000 in
set_option maxRecDepth 100000 in
theorem together_walk (hT : TabAt w0) {ab B : Nat} (hB1 : 1 ≤ B) (hB2 : B ≤ 256) (hX : Has [] w0 w (.table b (newHt ab 400 B))) {pa pp : Option Addr} {ca P cp : Nat} (hN : N ≤ 60) (hP : P ≤ 10000) {z : Nat → Int} (hA : AskIn w0 pa N a) (hZ : InRow w0 pp P z) :
    Calls Tryd.prog 12 #[.pointer (some ⟨b, 0, none⟩), .slice pa N ca, .slice pp P cp] w fun e w' => ∃ (lv : Value) (ga gn : Nat) (obs : Nat → Nat) (g : Tg) (t : Int), e = .returned (.tuple #[lv, .bool true]) ∧ g.n = N ∧ (∀ k, k < N → 0 ≤ g.en k) ∧ g.T.ab = ab ∧ TgI B a N t g ∧ Has [] w0 w' (.tog b lv ga gn obs a g) := by
  have HT := Lib.hid hT
  have HX := Lib.hid hX
  have HA := Lib.hid hA
  have HZ := Lib.hid hZ
  clear hT hX hA hZ
  have hmk := make_four
  obtain ⟨i0, hi0, hz0, hz1, hz2⟩ := info_parts info_under
  go_enter Tryd.func12, Tryd.ntmps12
  go_wp2_with fail
  have h0 := (many_zero HX.out (fun _ => 0) (Tg.none (newHt ab 400 B)).q).beside ((Has.rowsNil w 44 7 (undF a (fun _ => 0) (Tg.none (newHt ab 400 B)))).beside ((Has.madeFour w).beside (Has.madeFour (w.alloc (.cells #[.int .i64 0, .int .i64 0, .int .i64 0, .int .i64 0] 3)))))
  have hsz : (w.alloc (.cells #[.int .i64 0, .int .i64 0, .int .i64 0, .int .i64 0] 3)).heap.size = w.heap.size + 1 := Array.size_push _
  rw [hsz] at h0
  have HTG := Lib.hid (show Has [] w0 _ (.tg (.many b (newHt ab 400 B) 0 (fun _ => 0) (Tg.none (newHt ab 400 B)).q) (.slice none 0 0) 0 (undF a (fun _ => 0) (Tg.none (newHt ab 400 B))) w.heap.size (w.heap.size + 1) (fun _ => .int .i64 0) (fun _ => .int .i64 0)) from h0)
  generalize hga : w.heap.size = ga at *
  clear hsz h0 hmk
  go_loopg [11] 4 (fun k iv wr => ∃ i : Nat, i ≤ 4 ∧ k = 4 - i ∧ iv = .int .i64 i ∧ Has [] w0 wr (.tg (.many b (newHt ab 400 B) 0 (fun _ => 0) (Tg.none (newHt ab 400 B)).q) (.slice none 0 0) 0 (undF a (fun _ => 0) (Tg.none (newHt ab 400 B))) ga (ga + 1) (fun _ => .int .i64 0) (fun j => if j < i then .int .i64 (-1) else .int .i64 0)))
  case atStart => exact ⟨0, by omega, rfl, rfl, tg_congr HTG.out (fun _ _ => rfl) (fun _ _ => rfl) (fun _ _ => (if_neg (Nat.not_lt_zero _)).symm)⟩
  case round =>
    clear HTG HX
    obtain ⟨i, hi, hk, rfl, hX⟩ := hrel
    by_cases hlt : i < 4
    · have d1 : decide ((i : Int) < 4) = true := by simp; omega
      have d1' : decide (i < 4) = true := by simpa using hlt
      have q1 : 0 ≤ (i : Int) ∧ (i : Int) < ((4 : Nat) : Int) := by omega
      have q2 : 0 ≤ (i : Int) ∧ (i : Int) < 4 := by omega
      obtain ⟨c1, z1, hp⟩ := tg_now hX hlt
      have HX := Lib.hid (hp (.int .i64 (-1)))
      clear hX hp
      go_wp2_with fail
      go_roundg (4 - (i + 1))
      case measure => omega
      case rel => exact ⟨i + 1, by omega, rfl, by go_num, tg_congr HX.out (fun _ _ => rfl) (fun _ _ => rfl) fun j hj => by
        unfold upd
        dsimp only
        by_cases e : j = i
        · rw [if_pos e, if_pos (by omega)]
        · rw [if_neg e]
          by_cases e2 : j < i
          · rw [if_pos e2, if_pos (by omega)]
          · rw [if_neg e2, if_neg (by omega)]⟩
    · obtain rfl : i = 4 := by omega
      have HX := Lib.hid (show Has [] w0 wr (.tog b (.slice none 0 0) ga (ga + 1) (fun _ => 0) a (.none (newHt ab 400 B))) from tg_congr hX (fun _ _ => rfl) (fun _ _ => rfl) fun j hj => by rw [if_pos hj]; rfl)
      clear hX hi hk hlt
      obtain ⟨D, hD⟩ : ∃ D : Nat, D = 4 * (N * (8 * N + 20)) := ⟨_, rfl⟩
      have hM : N * (8 * N + 20) ≤ 60 * 500 := Nat.mul_le_mul hN (by omega)
      have hturn : wrap64 (4 * (N : Int) * (8 * (N : Int) + 20)) = (D : Int) := by
        have e : 4 * (N : Int) * (8 * (N : Int) + 20) = ((4 * (N * (8 * N + 20)) : Nat) : Int) := by
          rw [Int.mul_assoc]; push_cast; rfl
        rw [e, hD]; unfold wrap64; omega
      have HD := Lib.hid hD
      have hD9 : D ≤ 120000 := by omega
      have HM := Lib.hid (show Meas B a N P (N * (N + 5) + N * (N + 4)) 0 (.none (newHt ab 400 B)) from fun v hv => by
        right
        have h1 := lam_none (B := B) a N ab v hv
        by_cases h0 : 0 < P
        · exact .inl ⟨h0, h1⟩
        · exact .inr ⟨by omega, by rw [show P = 0 by omega]; omega⟩)
      clear hD hM
      go_wp2_with fail
      go_loopg [8, 13] (P + D) (fun k lv iv wr => ∃ (i : Nat) (obs : Nat → Nat) (g : Tg), i ≤ P + D ∧ k = P + D - i ∧ iv = .int .i64 i ∧ g.T.ab = ab ∧ TgI B a N i g ∧ Meas B a N P (N * (N + 5) + N * (N + 4)) i g ∧ Has [] w0 wr (.tog b lv ga (ga + 1) obs a g))
      case atStart => exact ⟨0, _, _, Nat.zero_le _, rfl, rfl, rfl, TgI.none a N ab, HM.out, HX.out⟩
      case round =>
        clear HX HM hturn
        obtain ⟨i, obs, g, hi, hk, rfl, hab, hI, hMs, hX⟩ := hrel
        have HAB := Lib.hid hab
        clear hab
        obtain ⟨lp, lc, rfl⟩ := tog_slice hX
        have HI := Lib.hid hI
        have HM := Lib.hid hMs
        have HX := Lib.hid hX
        have HK := Lib.hid hk
        clear hI hMs hX hk
        by_cases hlt : i < P + D
        · have d1 : decide ((i : Int) < (P : Int) + (D : Int)) = true := by simp; omega
          have d1' : decide (i < P + D) = true := by simpa using hlt
          obtain ⟨v, hv, hvP, hvT, hwk⟩ : ∃ v, v < 4 ∧ (P ≤ i → v = i % 4) ∧ ((i < P → wkN (z i) = v)) ∧ (P ≤ i → (i : Int) % 4 = (v : Int)) := by
            by_cases hiP : i < P
            · exact ⟨wkN (z i), wkN_lt _, fun h => by omega, fun _ => rfl, fun h => by omega⟩
            · exact ⟨i % 4, Nat.mod_lt _ (by omega), fun _ => rfl, fun h => absurd h hiP, fun _ => rfl⟩
          have HVP := Lib.hid hvP
          have HVT := Lib.hid hvT
          have HWK := Lib.hid hwk
          clear hvP hvT hwk
          obtain ⟨hc1, hz1, hput1⟩ := tg_now HX.out hv
          have HC1 := Lib.hid hc1
          clear hc1 hz1 hput1
          have hcase : (decide ((i : Int) < (P : Int)) = true ∧ decide (i < P) = true ∧ i < P) ∨ (decide ((i : Int) < (P : Int)) = false ∧ decide (i < P) = false ∧ P ≤ i) := by
            by_cases h : i < P
            · left; simp; omega
            · right; simp; omega
          have HCS := Lib.hid hcase
          clear hcase
          go_upto_if 47 with fail
          go_cut [14] from 34 to 147 (fun s14 wx => s14 = .int .i64 (v : Int) ∧ wx = wr)
          case first =>
            rcases HCS.out with ⟨e1, e2, hiP⟩ | ⟨e1, e2, hiP⟩
            · obtain ⟨gp, op, rfl, hzc⟩ := HZ.out.cell HX.out.keeps hiP
              have q1 : 0 ≤ (i : Int) ∧ (i : Int) < (P : Int) := by omega
              have hw1 : (wrap64 ((z i).tmod 4 + 4)).tmod 4 = (v : Int) := by rw [wk_walk, HVT.out hiP]
              have h9 : P ≤ 9223372036854775807 := by omega
              clear hiP
              go_wp2_with fail
              go_meet
              exact ⟨rfl, rfl⟩
            · have hw1 := HWK.out hiP
              have hiP2 : ¬ i < P := by omega
              clear hiP
              go_wp2_with fail
              rw [hw1]
              go_meet
              exact ⟨rfl, rfl⟩
          case rest =>
            obtain ⟨rfl, rfl⟩ := hcut
            clear HVT HWK HCS
            have q1 : 0 ≤ (v : Int) ∧ (v : Int) < ((4 : Nat) : Int) := by omega
            have q2 : 0 ≤ (v : Int) ∧ (v : Int) < 4 := by omega
            have hi9 : i ≤ 9223372036854775807 := by omega
            cases hnow : g.now v with
            | some k =>
              obtain ⟨hkn, hkw, hke⟩ := HI.out.now v hv k hnow
              have c1 : wc.cell? ⟨ga + 1, v, none⟩ = some (.int .i64 (k : Int)) := by
                rw [HC1.out]; unfold nowF nowI; rw [hnow]
              have e1 : decide ((k : Int) < 0) = false := by simp
              obtain ⟨gl, cap, he, hcl, hmx⟩ := tog_row HX.out hkn
              obtain ⟨rfl, rfl⟩ : lp = some ⟨gl, 0, none⟩ ∧ lc = cap := by simpa using he
              have c2 := hcl 4 _ rfl
              have q3 : 0 ≤ (k : Int) ∧ (k : Int) < (g.n : Int) := by omega
              have hn9 : g.n ≤ 9223372036854775807 := Nat.le_trans hmx (by decide)
              obtain ⟨r1, r2, r3, r4⟩ := HI.out.room hN hB1 hB2
              have HST := Lib.hid (tog_step HX.out hkn HT.out r1 r2 r3 r4 ((HI.out.go k hkn hke).2.2.2.hok HI.out.tab r1) (tab_lt HT.out))
              obtain ⟨g', hS⟩ := HI.out.stepped (by omega) hv hnow
              have HS := Lib.hid hS
              have HN := Lib.hid hnow
              have HKN := Lib.hid hkn
              clear HC1 hcl he r1 r2 r3 r4 hS hnow hkn hkw hke HX hmx
              go_wp2_with fail
              refine HST.out.mono ?_
              rintro e w2 ⟨rfl, hX2⟩
              have HX2 := Lib.hid hX2
              clear hX2 HST
              cases hdn : (hstep g.T (g.q k)).2.2
              · obtain ⟨s1, s2, s3⟩ : False = False ∧ g'.en = g.en ∧ g'.now = g.now := by
                  rcases HS.out.en with ⟨_, e1, e2⟩ | ⟨e1, _⟩
                  · exact ⟨rfl, e1, e2⟩
                  · rw [hdn] at e1; cases e1
                have HX3 := Lib.hid (tog_next (g' := g') (a := a) HX2.out HS.out.T HS.out.n HS.out.q (fun d _ => undF_same a obs g g' HS.out.x HS.out.bg s2 d) (fun d _ => by unfold posF; rw [HS.out.pos]) (fun d _ => by unfold nowF nowI; rw [s3]))
                have HEN := Lib.hid HS.out.n
                clear HX2 s1 s2 s3
                go_wp2_with fail
                go_roundg (P + D - (i + 1))
                case measure => rw [HK.out]; omega
                case rel => exact ⟨i + 1, obs, g', by omega, rfl, by go_num, by rw [HS.out.T, hstep_ab]; exact HAB.out, HS.out.inv.cast, HM.out.turn (Turned.ofStep HS.out HN.out) HVP.out, HX3.out⟩
              · obtain ⟨s1, s2, s3⟩ : False = False ∧ g'.en = updA g.en k i ∧ g'.now = updA g.now v none := by
                  rcases HS.out.en with ⟨e1, _⟩ | ⟨_, e1, e2⟩
                  · rw [hdn] at e1; cases e1
                  · exact ⟨rfl, e1, e2⟩
                obtain ⟨c3, z3, _⟩ := tg_now HX2.out hv
                have c4 : w2.cell? ⟨ga + 1, v, none⟩ = some (.int .i64 (k : Int)) := by
                  rw [c3]; unfold nowF nowI; rw [HN.out]
                obtain ⟨gl2, cap2, he2, hcl2, hz6, _, hput2⟩ := tg_row HX2.out HKN.out
                obtain ⟨rfl, rfl⟩ : gl = gl2 ∧ lc = cap2 := by simpa using he2
                have hX3 := hput2 (.int .i64 (i : Int))
                have c5 := hcl2 6 _ rfl
                obtain ⟨c6, z4, hput4⟩ := tg_now hX3 hv
                have hX4 := hput4 (.int .i64 (-1))
                have HX4 := Lib.hid (tog_next (g' := g') (a := a) hX4 HS.out.T HS.out.n HS.out.q (fun d _ => undF_end a obs g g' k i HS.out.x HS.out.bg s2 d) (fun d _ => by unfold posF; rw [HS.out.pos]) (fun d _ => nowF_end g g' v s3 d))
                clear HX2 s1 s2 s3 c3 z3 he2 hcl2 hput2 hX3 hput4 hX4
                go_wp2_with fail
                go_roundg (P + D - (i + 1))
                case measure => rw [HK.out]; omega
                case rel => exact ⟨i + 1, obs, g', by omega, rfl, by go_num, by rw [HS.out.T, hstep_ab]; exact HAB.out, HS.out.inv.cast, HM.out.turn (Turned.ofStep HS.out HN.out) HVP.out, HX4.out⟩
            | none =>
              have c1 : wc.cell? ⟨ga + 1, v, none⟩ = some (.int .i64 (-1)) := by
                rw [HC1.out]; unfold nowF nowI; rw [hnow]
              have HN := Lib.hid hnow
              clear hnow HC1
              go_wp2_with fail
              go_loopg [] (N - g.pos v) (fun k wr => ∃ p : Nat, g.pos v ≤ p ∧ p ≤ N ∧ k = N - p ∧ unb a N v p = unb a N v (g.pos v) ∧ Has [] w0 wr (.tog b (.slice lp g.n lc) ga (ga + 1) obs a (g.skip v p)))
              case atStart => exact ⟨g.pos v, Nat.le_refl _, HI.out.pos v hv, rfl, rfl, by rw [skip_same]; exact HX.out⟩
              case round =>
                clear HX c1
                obtain ⟨p, hp1, hp2, hk2, hu, hX⟩ := hrel
                obtain ⟨c2, z2, hput2⟩ := tg_pos hX hv
                have c3 : wr.cell? ⟨ga, v, none⟩ = some (.int .i64 (p : Int)) := by
                  rw [c2]; unfold posF; rw [show (g.skip v p).pos v = p from updA_at _ _ _]
                have HU := Lib.hid hu
                have HX := Lib.hid hX
                have HP2 := Lib.hid hput2
                have HK2 := Lib.hid hk2
                clear c2 hu hX hput2 hk2
                by_cases hpN : p < N
                · obtain ⟨ag, off, rfl, hac⟩ := (HA.out.kept HX.out.keeps) (by omega)
                  obtain ⟨a0, a1, a2, a3, ar0, ar1⟩ := hac p hpN
                  have f1 : decide ((p : Int) < (N : Int)) = true := by simp; omega
                  have f1' : decide (p < N) = true := by simpa using hpN
                  have q3 : 0 ≤ (p : Int) ∧ (p : Int) < (N : Int) := by omega
                  have hw1 := wk_walk (a p).wk
                  by_cases hwv : wkN (a p).wk = v
                  · rw [hwv] at hw1
                    have g1 : ((p : Int) == (N : Int)) = false := by simp; omega
                    have g1' : (p == N) = false := by simp; omega
                    have g2 : decide ((p : Int) = (N : Int)) = false := by simp; omega
                    have g2' : decide (p = N) = false := by simp; omega
                    obtain ⟨x1, x2, x3⟩ := tg_now HX.out hv
                    have HX1 := Lib.hid (x3 (.int .i64 (g.n : Nat)))
                    have HPN := Lib.hid hpN
                    have HWV := Lib.hid hwv
                    clear x3 hac hpN hwv HP2
                    go_upto_region 20 with fail
                    generalize hW1 : wr.setCell ⟨ga + 1, v, none⟩ (.int .i64 (g.n : Int)) = W1 at *
                    go_cut [8] from 34 to 147 (fun s8 wx => ∃ (ob : Nat) (lp2 : Option Addr) (lc2 : Nat), s8 = .slice lp2 (g.n + 1) lc2 ∧ Has [] w0 wx (.tg (.many b g.T (g.n + 1) (fun j => if j = g.n then ob else obs j) (updQ g.q g.n (a p).op)) s8 (g.n + 1) (fun d => if d = g.n then [.int .i64 (a p).wk, .bool (a p).look, .string (a p).key, .int .i64 (a p).ref, .pointer (some ⟨ob, 0, none⟩), .int .i64 (i : Int), .int .i64 (-1)] else undF a obs (g.skip v p) d) ga (ga + 1) (posF (g.skip v p)) (upd (nowF (g.skip v p)) v (.int .i64 (g.n : Nat)))))
                    case first =>
                      have hX1d := HX1.out.quiet ((Kept.refl [] W1).drew)
                      obtain ⟨y0, _, _⟩ := tg_pos HX1.out hv
                      have b0 : W1.cell? ⟨ga, v, none⟩ = some (.int .i64 (p : Int)) := by
                        rw [y0]; unfold posF; rw [show (g.skip v p).pos v = p from updA_at _ _ _]
                      obtain ⟨ag', off', he', hac⟩ := (HA.out.kept HX1.out.keeps) (by have := HPN.out; omega)
                      obtain ⟨rfl, rfl⟩ : ag = ag' ∧ off = off' := by simpa using he'
                      obtain ⟨b1, b2, b3, b4, _⟩ := hac p HPN.out
                      have HX1D := Lib.hid hX1d
                      have hn9 : g.n ≤ 60 := Nat.le_trans HI.out.nN hN
                      clear y0 hac he' hX1d a0 a1 a2 a3 x1 x2 hW1 c3 z2
                      go_region_law
                        (first | (go_simp
                                  go_at_call 27
                                  refine (begun_walk _ _ (a p)).mono ?_
                                  rintro e w5 ⟨ob, rfl, hO⟩
                                  obtain ⟨o5, h5, _, bk5⟩ := tg_ops HX1D.out
                                  have hX5 := bk5 _ _ (many_more h5 hO)
                                  obtain ⟨y5, _, _⟩ := tg_pos hX5 hv
                                  have d0 : w5.cell? ⟨ga, v, none⟩ = some (.int .i64 (p : Int)) := by
                                    rw [y5]; unfold posF; rw [show (g.skip v p).pos v = p from updA_at _ _ _]
                                  obtain ⟨ag', off', he', hac⟩ := (HA.out.kept hX5.keeps) (by have := HPN.out; omega)
                                  obtain ⟨rfl, rfl⟩ : ag = ag' ∧ off = off' := by simpa using he'
                                  obtain ⟨d1, d2, d3, d4, _⟩ := hac p HPN.out
                                  have HX5 := Lib.hid hX5
                                  clear y5 hac he' hX5 h5 bk5 hO)
                               | (obtain ⟨o3, h3, bk3⟩ := tg_rows HX5.out
                                  refine step_append_new rfl (.tmp 100) (.tmp 119) 35 rfl 44 i0 (.agg #[.int .i64 0, .bool false, .string ⟨#[]⟩, .int .i64 0, .pointer none, .int .i64 0, .int .i64 0]) 7 64 Tryd.underlying35 hi0 hz0 hz1 hz2 rfl (by decide) (.slice lp g.n lc) g.n (flatN g.n (undF a obs (g.skip v p))) rfl (h3.rowsOwn.alloc _) ⟨w5.heap.size, 0, none⟩ 1 1 [.int .i64 (a p).wk, .bool (a p).look, .string (a p).key, .int .i64 (a p).ref, .pointer (some ⟨ob, 0, none⟩), .int .i64 (i : Int), .int .i64 (-1)] rfl rfl (cells_new w5 w5.heap.size _ _ rfl) (by simp [Value.oneCell']) (by simp only [maxLen]; omega) (by omega) ?_
                                  intro v' w6 happ
                                  have hX6 := bk3 _ _ _ _ (Has.rowsMore _ h3 happ)
                                  obtain ⟨lp2, lc2, rfl⟩ : ∃ lp2 lc2, v' = .slice lp2 (g.n + 1) lc2 := by
                                    rcases rowN_open happ.row with ⟨_, h0⟩ | ⟨gv, vc, e, _⟩
                                    · omega
                                    · exact ⟨_, vc, e⟩
                                  have HX6 := Lib.hid hX6
                                  clear hX6 happ h3 bk3))
                      all_goals (
                        go_wp2_with fail
                        go_meet
                        exact ⟨ob, lp2, lc2, rfl, HX6.out⟩)
                    case rest =>
                      obtain ⟨ob, lp2, lc2, rfl, hX6⟩ := hcut
                      obtain ⟨y6, z6, hput6⟩ := tg_pos hX6 hv
                      have c6 : wc.cell? ⟨ga, v, none⟩ = some (.int .i64 (p : Int)) := by
                        rw [y6]; unfold posF; rw [show (g.skip v p).pos v = p from updA_at _ _ _]
                      obtain ⟨t1, t2⟩ := Turned.ofBegin HI.out hv HN.out hp1 HPN.out HU.out HWV.out
                      have HT1 := Lib.hid t1
                      have HT2 := Lib.hid t2
                      have ep : (g.skip v p).pos v = p := updA_at _ _ _
                      have HX7 := Lib.hid (tog_next (g' := (g.skip v p).begin a i v) (a := a) (hput6 (.int .i64 ((p + 1 : Nat) : Int))) rfl rfl
                        (show updA g.q g.n (a ((g.skip v p).pos v)).op = updQ g.q g.n (a p).op by rw [ep]; rfl)
                        (fun d hd => by have := undF_begin a obs ob (g.skip v p) i v d hd; rw [ep] at this; exact this)
                        (fun d _ => by have := posF_begin (g.skip v p) a i v d; rw [ep] at this; exact this)
                        (fun d _ => nowF_begin (g.skip v p) a i v d))
                      clear y6 hput6 hX6 t1 t2 HX1 x1 x2 c3 z2 hW1 a0 a1 a2 a3
                      have HEP := Lib.hid ep
                      clear ep
                      go_wp2_with fail
                      go_roundg (P + D - (i + 1))
                      case measure => rw [HK.out]; omega
                      case rel => exact ⟨i + 1, _, (g.skip v p).begin a i v, by omega, rfl, by go_num, HAB.out, HT1.out.cast, HM.out.turn HT2.out HVP.out, HX7.out⟩
                  · have hsk : unb a N v (p + 1) = unb a N v (g.pos v) := by rw [unb_skip a N v p hpN hwv]; exact HU.out
                    have hne : ¬ ((wkN (a p).wk : Int) = (v : Int)) := by omega
                    generalize wkN (a p).wk = u at *
                    have g1 : ((u : Int) == (v : Int)) = false := by simpa using hne
                    have g1' : (u == v) = false := by simpa using hwv
                    have g2 : decide ((u : Int) = (v : Int)) = false := by simpa using hne
                    have g2' : decide (u = v) = false := by simpa using hwv
                    have g3 : ((u : Int) != (v : Int)) = true := by simpa using hne
                    have g3' : (u != v) = true := by simpa using hwv
                    have HSK := Lib.hid hsk
                    have HXN := Lib.hid (tog_next (g' := g.skip v (p + 1)) (a := a) (HP2.out (.int .i64 ((p + 1 : Nat) : Int))) rfl rfl rfl (fun _ _ => rfl) (fun d _ => by rw [posF_upd, skip_skip]) (fun _ _ => rfl))
                    clear hac hsk HP2
                    go_wp2_with fail
                    go_roundg (N - (p + 1))
                    case measure => rw [HK2.out]; omega
                    case rel => exact ⟨p + 1, by omega, by omega, rfl, HSK.out, HXN.out⟩
                · obtain rfl : p = N := by omega
                  have f1 : decide (p < p) = false := by simp
                  have f1' : decide ((p : Int) < (p : Int)) = false := by simp
                  obtain ⟨t1, t2⟩ := Turned.ofIdle HI.out hv HN.out HU.out
                  have HT1 := Lib.hid t1
                  have HT2 := Lib.hid t2
                  clear HP2 t1 t2
                  go_wp2_with fail
                  go_roundg (P + D - (i + 1))
                  case measure => rw [HK.out]; omega
                  case rel => exact ⟨i + 1, obs, g.skip v p, by omega, rfl, by go_num, HAB.out, HT1.out.cast, HM.out.turn HT2.out HVP.out, HX.out⟩
        · have d1 : decide ((i : Int) < (P : Int) + (D : Int)) = false := by simp; omega
          have d1' : decide (i < P + D) = false := by simpa using hlt
          have hiE : i = P + 4 * (N * (8 * N + 20)) := by have := HD.out; omega
          have hidle : ∀ v, v < 4 → Idle a N g v := by
            have h9 := HM.out
            rw [hiE] at h9
            by_cases h0 : 0 < N
            · exact fun v hv => h9.last (.inl (turns_enough N h0)) v hv
            · obtain rfl : N = 0 := by omega
              intro v hv
              refine ⟨?_, unb_end _ _ _ _ (Nat.zero_le _)⟩
              cases hn : g.now v with
              | none => rfl
              | some k =>
                have h1 := (HI.out.now v hv k hn).1
                have h2 := HI.out.nN
                omega
          obtain ⟨hn, hov⟩ := HI.out.allBegun hidle
          have HID := Lib.hid hidle
          have HOV := Lib.hid hov
          have HN := Lib.hid hn
          clear hidle hov hiE
          go_wp2_with fail
          go_loopg [16] 4 (fun k iv wr => ∃ j : Nat, j ≤ 4 ∧ k = 4 - j ∧ iv = .int .i64 j ∧ Has [] w0 wr (.tog b (.slice lp g.n lc) ga (ga + 1) obs a g))
          case atStart => exact ⟨0, by omega, rfl, rfl, HX.out⟩
          case round =>
            clear HX
            obtain ⟨j, hj, hk, rfl, hX⟩ := hrel
            by_cases hj4 : j < 4
            · have e1 : decide ((j : Int) < 4) = true := by simp; omega
              have e1' : decide (j < 4) = true := by simpa using hj4
              have q1 : 0 ≤ (j : Int) ∧ (j : Int) < ((4 : Nat) : Int) := by omega
              have q2 : 0 ≤ (j : Int) ∧ (j : Int) < 4 := by omega
              obtain ⟨c1, z1, _⟩ := tg_now hX hj4
              have c2 : wr.cell? ⟨ga + 1, j, none⟩ = some (.int .i64 (-1)) := by
                rw [c1]; unfold nowF nowI; rw [(HID.out j hj4).1]
              have e3 : decide (g.n < N) = false := by simp [HN.out]
              have e3' : decide ((g.n : Int) < (N : Int)) = false := by simp [HN.out]
              have HX := Lib.hid hX
              clear hX c1 z1
              go_wp2_with fail
              go_roundg (4 - (j + 1))
              case measure => omega
              case rel => exact ⟨j + 1, by omega, rfl, by go_num, HX.out⟩
            · obtain rfl : j = 4 := by omega
              have HX := Lib.hid hX
              clear hX
              go_wp2_with fail
              go_ret2
              exact ⟨_, ga, ga + 1, obs, g, i, rfl, HN.out, fun k hk => HOV.out k (by rw [HN.out]; exact hk), HAB.out, HI.out, HX.out⟩
end Go.Proofs.YtmldighidbfhhaaDoor
namespace Go.Proofs.YtmldighidbfhhaaDoor
open Go Go.RowKit
set_option linter.unusedVariables false

variable {o : List Nat} {w0 w : World} {b ob : Nat} {x : HtIx} {T : AHt}

/-- So many steps more: what stepping to the end does. -/
def Runs (ob : Nat) (R : Nat → World → Prop) (F : World → Prop) : Prop :=
  (∀ n w, R (n + 1) w → Calls Tryd.prog 21 #[.pointer (some ⟨ob, 0, none⟩)] w fun e w' => e = .returned (.bool false) ∧ R n w') ∧
  (∀ w, R 0 w → Calls Tryd.prog 21 #[.pointer (some ⟨ob, 0, none⟩)] w fun e w' => e = .returned (.bool true) ∧ F w')

set_option maxHeartbeats 1000000 in
set_option maxRecDepth 100000 in
theorem done_walk {R : Nat → World → Prop} {F : World → Prop} (hR : Runs ob R F) (n : Nat) (most : Int) (hm : (n : Int) + 1 ≤ most) (hm9 : most ≤ 1000000000000) (h : R n w) :
    Calls Tryd.prog 23 #[.pointer (some ⟨ob, 0, none⟩), .int .i64 most] w fun e w' => e = .returned (.int .i64 ((n : Int) + 1)) ∧ F w' := by
  have HR := Lib.hid hR
  have H := Lib.hid h
  clear hR h
  go_enter Tryd.func23, Tryd.ntmps23
  go_wp2_with fail
  go_loopg [5] n (fun k iv wr => ∃ i : Nat, i ≤ n ∧ k = n - i ∧ iv = .int .i64 ((i : Int) + 1) ∧ R (n - i) wr)
  case atStart => exact ⟨0, Nat.zero_le _, rfl, rfl, H.out⟩
  case round =>
    clear H
    obtain ⟨i, hi, hk, rfl, hX⟩ := hrel
    have HKK := Lib.hid hk
    have d1 : decide ((i : Int) + 1 ≤ most) = true := by simp; omega
    by_cases hlt : i < n
    · have hx : R (n - (i + 1) + 1) wr := by rw [show n - (i + 1) + 1 = n - i by omega]; exact hX
      have HS := Lib.hid (HR.out.1 _ _ hx)
      clear hk hX hx
      go_wp2_with fail
      refine HS.out.mono ?_
      rintro e w2 ⟨rfl, hX⟩
      have HX := Lib.hid hX
      clear hX
      go_wp2_with fail
      go_roundg (n - (i + 1))
      case measure => rw [HKK.out]; omega
      case rel => exact ⟨i + 1, by omega, rfl, by go_num, HX.out⟩
    · obtain rfl : i = n := by omega
      have hx : R 0 wr := by rw [show i - i = 0 by omega] at hX; exact hX
      have HS := Lib.hid (HR.out.2 _ hx)
      clear hk hX hx
      go_wp2_with fail
      refine HS.out.mono ?_
      rintro e w2 ⟨rfl, hX⟩
      have HX := Lib.hid hX
      clear hX
      go_wp2_with fail
      go_ret
      exact ⟨rfl, HX.out⟩


/-- The text "a". -/
def txtA : ByteArray := ⟨#[97]⟩
theorem keyA : keyB txtA = true := by decide +kernel

set_option maxHeartbeats 4000000 in
set_option maxRecDepth 100000 in
theorem shown_calls (w : World) (hT : TabAt w) :
    Calls Tryd.prog 7 #[] w fun e w' => e = .returned (.bool true) ∧ Kept [] w w' := by
  have HT := Lib.hid hT
  clear hT
  go_enter Tryd.func7, Tryd.ntmps7
  go_wp2_with fail
  refine (new_ar w w (Kept.refl _ _) 8 (by omega) (by omega)).mono ?_
  rintro e w1 ⟨ab, rfl, hA⟩
  have HA := Lib.hid hA
  clear hA
  go_wp2_with fail
  refine (new_table (n := 2) (by omega) (by omega) (by omega) (by omega) HA.out HT.out tab_nil).mono ?_
  rintro e w2 ⟨b, rfl, hX⟩
  have HX := Lib.hid hX
  clear hX HA
  go_wp2_with fail
  refine (insert_walk w2 (some ⟨b, 0, none⟩) txtA 7).mono ?_
  rintro e w3 ⟨ob, rfl, hO⟩
  obtain ⟨x, hr, h2⟩ := HX.out.htOpen
  have h3 : Has [] w w3 (HtOp b x (newHt ab 8 2) ob (.new txtA 7 true)) := h2.beside hO
  have hruns : Runs ob (fun n W => (n = 2 ∧ ∃ x', HtRep x'.S x'.C (newHt ab 8 2) ∧ Has [] w W (HtOp b x' (newHt ab 8 2) ob (.new txtA 7 true))) ∨
      (n = 1 ∧ ∃ x', HtRep x'.S x'.C ((newHt ab 8 2).step.add txtA 7) ∧ Has [] w W (HtOp b x' ((newHt ab 8 2).step.add txtA 7) ob { AHop.new txtA 7 true with head := 0, cur := 0, own := 1, next := 2 })) ∨
      (n = 0 ∧ ∃ x', HtRep x'.S x'.C (((newHt ab 8 2).step.add txtA 7).step.set (.next 0) 0) ∧ Has [] w W (HtOp b x' (((newHt ab 8 2).step.add txtA 7).step.set (.next 0) 0) ob { AHop.new txtA 7 true with head := 0, cur := 0, own := 1, next := 3 })))
      (fun W => ∃ x' T', Has [] w W (HtOp b x' T' ob { AHop.new txtA 7 true with head := 0, cur := 0, own := 1, next := 4 })) := by
    refine ⟨fun n W h => ?_, fun W h => ?_⟩
    · rcases h with ⟨hn, x', hr', h'⟩ | ⟨hn, x', hr', h'⟩ | ⟨hn, _⟩
      · obtain rfl : n = 1 := by omega
        refine (step_first h' hr' HT.out tab_nil keyA (by show 0 < 2; omega) (by show 2 ≤ 256; omega) (by show 0 ≤ 65536; omega) rfl rfl rfl (by show 2 < 8; omega) rfl).mono ?_
        rintro e w' ⟨rfl, x2, hr2, h2⟩
        exact ⟨rfl, .inr (.inl ⟨rfl, x2, hr2, h2⟩)⟩
      · obtain rfl : n = 0 := by omega
        have hat : ((newHt ab 8 2).step.add txtA 7).at_ (.next 0) = some 0 := by rw [AHt.at_add]; rfl
        refine (step_lay h' hr' keyA (by show 0 < 2; omega) (by show 2 ≤ 256; omega) rfl 0 0 rfl (by show 0 < 1; omega) hat).mono ?_
        rintro e w' ⟨rfl, h2⟩
        exact ⟨rfl, .inr (.inr ⟨rfl, _, hr'.step.put (l := .next 0) (u := 0) (v := 0) hat (by omega) (by omega) (by show ((1 : Nat) : Int) < _; omega), h2⟩)⟩
      · omega
    · rcases h with ⟨hn, _⟩ | ⟨hn, _⟩ | ⟨_, x', hr', h'⟩
      · omega
      · omega
      · refine (step_swap h' hr' keyA (by show 0 < 2; omega) (by show 2 ≤ 256; omega) rfl rfl).mono ?_
        rintro e w' ⟨rfl, h2⟩
        exact ⟨rfl, _, _, h2⟩
  have HD := Lib.hid (done_walk hruns 2 8 (by omega) (by omega) (.inl ⟨rfl, x, hr, h3⟩))
  clear hruns h2 h3 hr hO HX
  go_wp2_with fail
  refine HD.out.mono ?_
  rintro e w5 ⟨rfl, x', T', hX⟩
  obtain ⟨_, h6, _⟩ := ho_op hX
  have HG := Lib.hid (ref_over h6 rfl)
  have HK := Lib.hid hX.keeps
  clear hX HD h6
  go_wp2_with fail
  refine HG.out.mono ?_
  rintro e w6 ⟨rfl, hk6⟩
  have HK6 := Lib.hid (HK.out.tr hk6)
  clear hk6
  go_wp2_with fail
  go_ret
  exact ⟨rfl, HK6.out⟩
end Go.Proofs.YtmldighidbfhhaaDoor
namespace Go.Proofs.YtmldighidbfhhaaDoor
open Go Go.RowKit
set_option linter.unusedVariables false

theorem int_range {a : Int} (h : (Lit.int .i64 a).wf = true) : -9223372036854775808 ≤ a ∧ a < 9223372036854775808 := by
  simp only [Lit.wf, Bool.and_eq_true, decide_eq_true_eq] at h
  have e1 : IntKind.i64.min = -9223372036854775808 := by decide
  have e2 : IntKind.i64.max = 9223372036854775807 := by decide
  omega

set_option maxHeartbeats 2000000 in
set_option maxRecDepth 100000 in
theorem made_ok (w w1 : World) (hT : TabAt w) (k : Kept [] w w1) (n : Nat) (h1 : 1 ≤ n) (h2 : n ≤ 256) :
    Calls Tryd.prog 8 #[.int .i64 400, .int .i64 n] w1 fun e w' => ∃ ab b, e = .returned (.tuple #[.pointer (some ⟨ab, 0, none⟩), .pointer (some ⟨b, 0, none⟩), .bool true]) ∧ Has [] w w' (.table b (newHt ab 400 n)) := by
  have HT := Lib.hid hT
  have HK := Lib.hid k
  clear hT k
  go_enter Tryd.func8, Tryd.ntmps8
  go_wp2_with fail
  refine (new_ar w w1 HK.out 400 (by omega) (by omega)).mono ?_
  rintro e w2 ⟨ab, rfl, hA⟩
  have HN := Lib.hid (new_table (n := n) (by omega) h1 h2 (by omega) hA HT.out tab_nil)
  clear hA
  go_wp2_with fail
  refine HN.out.mono ?_
  rintro e w3 ⟨b, rfl, hX⟩
  have HX := Lib.hid hX
  clear hX
  go_wp2_with fail
  go_ret3
  exact ⟨ab, b, rfl, HX.out⟩
set_option maxHeartbeats 2000000 in
set_option maxRecDepth 100000 in
theorem made_no (w w1 : World) (k : Kept [] w w1) (n : Int) (h : n < 1 ∨ 256 < n) :
    Calls Tryd.prog 8 #[.int .i64 400, .int .i64 n] w1 fun e w' => ∃ ab, e = .returned (.tuple #[.pointer (some ⟨ab, 0, none⟩), .pointer none, .bool false]) ∧ Kept [] w w' := by
  have HK := Lib.hid k
  clear k
  have HN := Lib.hid (fun W p => new_no W p n h)
  clear h
  go_enter Tryd.func8, Tryd.ntmps8
  go_wp2_with fail
  refine (new_ar w w1 HK.out 400 (by omega) (by omega)).mono ?_
  rintro e w2 ⟨ab, rfl, hA⟩
  have HK2 := Lib.hid hA.keeps
  clear hA
  go_wp2_with fail
  refine (HN.out _ _).mono ?_
  rintro e w3 ⟨rfl, rfl⟩
  go_wp2_with fail
  go_ret3
  exact ⟨ab, rfl, HK2.out⟩

set_option maxHeartbeats 1000000 in
set_option maxRecDepth 100000 in
theorem lkey_walk (w : World) (s : ByteArray) : Calls Tryd.prog 10 #[.string s] w fun e w' => e = .returned (.bool (keyB s)) ∧ w' = w := by
  by_cases h0 : 1 ≤ s.size
  · have d1 : decide ((s.size : Int) ≥ 1) = true := by simp; omega
    have d1' : decide (1 ≤ (s.size : Int)) = true := by simp; omega
    have d4 : decide ((s.size : Int) ≤ 16) = keyB s := by
      unfold keyB
      by_cases h : s.size ≤ 16 <;> simp [h] <;> omega
    go_enter Tryd.func10, Tryd.ntmps10
    go_wp2_with fail
    go_ret
    exact ⟨rfl, rfl⟩
  · have d1 : decide ((s.size : Int) ≥ 1) = false := by simp; omega
    have d1' : decide (1 ≤ (s.size : Int)) = false := by simp; omega
    have hk : keyB s = false := by unfold keyB; simp; omega
    rw [hk]
    go_enter Tryd.func10, Tryd.ntmps10
    go_wp2_with fail
    go_ret
    exact ⟨rfl, rfl⟩

/-- The document's sum over a text's bytes, just laid. -/
theorem rcrc_key (w k : World) (s : ByteArray) (cap : Nat) (fr : Nat × Nat) (hs : s.size ≤ 1000000) (hk : Kept [] (w.alloc (.cells (bytesRow s cap) 5 fr)) k) :
    Calls Tryd.prog 11 #[.slice (some ⟨w.heap.size, 0, none⟩) s.size cap] k fun e w' => e = .returned (.int .u32 (crcOf s)) ∧ w' = k := by
  refine rcrc_walk k s.size cap (some ⟨w.heap.size, 0, none⟩) _ hs fun h0 => ⟨_, _, rfl, fun i hi => ⟨?_, Int.natCast_nonneg _, ?_⟩⟩
  · rw [Nat.zero_add]
    refine hk.cell ?_ (by simp)
    rw [World.cell?_alloc_mark]
    exact bytesRow_get s cap i hi
  · have := (s.data.getD i 0).toNat_lt
    omega

set_option maxHeartbeats 4000000 in
set_option maxRecDepth 100000 in
theorem buckets_law (w : World) (hT : TabAt w) (n : Int) (s : ByteArray) (h0 : -9223372036854775808 ≤ n) (h1 : n < 9223372036854775808) :
    Calls Tryd.prog 3 #[.int .i64 n, .string s] w fun e w' => e = .returned (.bool true) ∧ Kept [] w w' := by
  have HT := Lib.hid hT
  clear hT
  by_cases hn : n < 1 ∨ 256 < n
  · have HN := Lib.hid (fun W hW => made_no w W hW n hn)
    by_cases h2 : n < 1
    · have d1 : decide (n < 1) = true := by simpa using h2
      clear hn
      go_enter Tryd.func3, Tryd.ntmps3
      go_wp2_with fail
      refine (shown_calls w HT.out).mono ?_
      rintro e w1 ⟨rfl, hk⟩
      have HM := Lib.hid (HN.out _ hk)
      clear hk
      go_wp2_with fail
      refine HM.out.mono ?_
      rintro e w2 ⟨ab, rfl, hk⟩
      have HK := Lib.hid hk
      clear hk
      go_wp2_with fail
      go_ret
      exact ⟨rfl, HK.out⟩
    · have d1 : decide (n < 1) = false := by simpa using h2
      have d2 : decide (n > 256) = true := by simp; omega
      have d2' : decide (256 < n) = true := by simp; omega
      clear hn
      go_enter Tryd.func3, Tryd.ntmps3
      go_wp2_with fail
      refine (shown_calls w HT.out).mono ?_
      rintro e w1 ⟨rfl, hk⟩
      have HM := Lib.hid (HN.out _ hk)
      clear hk
      go_wp2_with fail
      refine HM.out.mono ?_
      rintro e w2 ⟨ab, rfl, hk⟩
      have HK := Lib.hid hk
      clear hk
      go_wp2_with fail
      go_ret
      exact ⟨rfl, HK.out⟩
  · obtain ⟨m, rfl⟩ := Int.eq_ofNat_of_zero_le (a := n) (by omega)
    have hm1 : 1 ≤ m := by omega
    have hm2 : m ≤ 256 := by omega
    clear hn
    have HN := Lib.hid (fun W hW => made_ok w W HT.out hW m hm1 hm2)
    have HLK := Lib.hid (fun W => lkey_walk W s)
    cases hk0 : keyB s
    · rw [hk0] at HLK
      have HB := Lib.hid (fun W (b : Nat) => bucket_nokey (b := b) W s hk0)
      go_enter Tryd.func3, Tryd.ntmps3
      go_wp2_with fail
      refine (shown_calls w HT.out).mono ?_
      rintro e w1 ⟨rfl, hk⟩
      have HM := Lib.hid (HN.out _ hk)
      clear hk
      go_wp2_with fail
      refine HM.out.mono ?_
      rintro e w2 ⟨ab, b, rfl, hX⟩
      have HK := Lib.hid hX.keeps
      clear hX
      go_wp2_with fail
      refine (HB.out _ _).mono ?_
      rintro e w3 ⟨rfl, rfl⟩
      go_wp2_with fail
      refine (HLK.out _).mono ?_
      rintro e w4 ⟨rfl, rfl⟩
      go_wp2_with fail
      go_ret
      exact ⟨rfl, HK.out⟩
    · rw [hk0] at HLK
      have hsz : s.size ≤ 16 := by unfold keyB at hk0; simp at hk0; omega
      have hw32 : IntKind.u32.wrap (m : Int) = m := wrap32 (by omega) (by omega)
      obtain ⟨hr0, hr1⟩ := crcOf_range s
      have hb0 : (m : Int) ≠ 0 := by omega
      have hb00 : m ≠ 0 := by omega
      have hb1 : ((m : Int) == 0) = false := by simpa using hb00
      have hb2 : decide ((m : Int) = 0) = false := by simpa using hb00
      have hm0 : (crcOf s).tmod (m : Int) = crcOf s % m := Int.tmod_eq_emod_of_nonneg hr0
      have hm3 : 0 ≤ crcOf s % (m : Int) := Int.emod_nonneg _ hb0
      have hm4 : crcOf s % (m : Int) < m := Int.emod_lt_of_pos _ (by omega)
      have hm5 : IntKind.u32.wrap (crcOf s % (m : Int)) = crcOf s % (m : Int) := wrap32 hm3 (by omega)
      have hm6 : IntKind.i64.wrap (crcOf s % (m : Int)) = crcOf s % (m : Int) := by
        unfold IntKind.wrap; simp [IntKind.bits, IntKind.signed]; omega
      have hcv : ∀ w : World, (convert 9 31 (.string s)).run Tryd.prog w = .ok (.slice (some ⟨w.heap.size, 0, none⟩) s.size (grownCap w s.size 0 5))
          (w.drew.alloc (.cells (bytesRow s (grownCap w s.size 0 5)) 5 ((bytesRow s (grownCap w s.size 0 5)).size, (bytesRow s (grownCap w s.size 0 5)).size + 1))) :=
        fun w => run_bytes_of_string w _ _ _ s Tryd.underlying9 Tryd.underlying31 Tryd.underlying5
      have HKB := Lib.hid hk0
      clear hk0
      go_enter Tryd.func3, Tryd.ntmps3
      go_wp2_with fail
      refine (shown_calls w HT.out).mono ?_
      rintro e w1 ⟨rfl, hk⟩
      have HM := Lib.hid (HN.out _ hk)
      clear hk
      go_wp2_with fail
      refine HM.out.mono ?_
      rintro e w2 ⟨ab, b, rfl, hX⟩
      obtain ⟨x, hr, h4⟩ := hX.htOpen
      have HB := Lib.hid (show Calls Tryd.prog 9 #[.pointer (some ⟨b, 0, none⟩), .string s] w2 fun e w' => e = .returned (.int .i64 (crcOf s % m)) ∧ Kept [] w2 w' from bucket_key h4 s HKB.out (by show 0 < m; omega) hm2)
      have HK := Lib.hid hX.keeps
      clear hX h4 hr
      go_wp2_with fail
      refine HB.out.mono ?_
      rintro e w3 ⟨rfl, hk3⟩
      have HK3 := Lib.hid (HK.out.tr hk3)
      clear hk3
      go_wp2_with fail
      refine (HLK.out _).mono ?_
      rintro e w4 ⟨rfl, rfl⟩
      have HC := Lib.hid (fun (k : World) (hk : Kept [] (w4.alloc (.cells (bytesRow s (grownCap w4 s.size 0 5)) 5 ((bytesRow s (grownCap w4 s.size 0 5)).size, (bytesRow s (grownCap w4 s.size 0 5)).size + 1))) k) => rcrc_key w4 k s (grownCap w4 s.size 0 5) _ (by omega) hk)
      go_wp2_with fail
      refine (HC.out _ ((Kept.refl [] _).drew)).mono ?_
      rintro e w5 ⟨rfl, rfl⟩
      go_wp2_with fail
      go_ret
      exact ⟨rfl, HK3.out.tr (((Kept.refl [] _).alloc _).drew)⟩
end Go.Proofs.YtmldighidbfhhaaDoor
