/- The walks of chain and Chain. -/
import Derived.Test.YtbodobdllchmgaaDoorStoreOps
import Derived.Test.YtbodobdllchmgaaDoorStoreTake
namespace Go.Proofs.YtbodobdllchmgaaDoor
open Go Go.RowKit
set_option linter.unusedVariables false

variable {o : List Nat} {w0 w : World} {b : Nat} {x : StIx} {A : ASt}

/-- Where a version lies, if it is there. -/
def verAt (A : ASt) (g : Nat) (n : Int) : Option Addr := if 1 ≤ n ∧ A.ver (n - 1).toNat = true then some ⟨g, (n - 1).toNat * 5, none⟩ else none

theorem verAt_some {A : ASt} {g i : Nat} (h : A.ver i = true) : verAt A g ((i : Int) + 1) = some ⟨g, i * 5, none⟩ := by
  unfold verAt
  have e : ((i : Int) + 1 - 1).toNat = i := by omega
  rw [e, if_pos ⟨by omega, h⟩]

theorem version_any (h : Has o w0 w (StP b x A)) (n : Int) {g cap : Nat} (hvv : 0 < A.nV → x.vv = .slice (some ⟨g, 0, none⟩) A.nV cap) :
    Calls Tryd.prog 53 #[.pointer (some ⟨b, 0, none⟩), .int .i64 n] w fun e w' => e = .returned (.pointer (verAt A g n)) ∧ w' = w := by
  by_cases hc : 1 ≤ n ∧ A.ver (n - 1).toNat = true
  · obtain ⟨i, rfl⟩ : ∃ i : Nat, n = (i : Int) + 1 := ⟨(n - 1).toNat, by omega⟩
    have e : ((i : Int) + 1 - 1).toNat = i := by omega
    rw [e] at hc
    rw [verAt_some hc.2]
    exact version_at h i hc.2 (hvv (by have := ver_lt hc.2; omega))
  · unfold verAt
    rw [if_neg hc]
    refine version_no h n fun i hi => ?_
    subst hi
    have e : ((i : Int) + 1 - 1).toNat = i := by omega
    rw [e] at hc
    cases hv : A.ver i
    · rfl
    · exact absurd ⟨by omega, hv⟩ hc

/-- A chain's numbers, from one on. -/
def chainF (A : ASt) : Nat → Int → List Nat
  | 0, _ => []
  | f + 1, n => if 1 ≤ n ∧ A.ver (n - 1).toNat = true then n.toNat :: chainF A f (A.V (n - 1).toNat).next else []

theorem chainF_stop {A : ASt} {f : Nat} {n : Int} (h : ¬ (1 ≤ n ∧ A.ver (n - 1).toNat = true)) : chainF A f n = [] := by
  cases f with
  | zero => rfl
  | succ f => unfold chainF; rw [if_neg h]

theorem chainF_go {A : ASt} {f i : Nat} (h : A.ver i = true) : chainF A (f + 1) ((i : Int) + 1) = (i + 1) :: chainF A f (A.V i).next := by
  have e : ((i : Int) + 1 - 1).toNat = i := by omega
  have e2 : ((i : Int) + 1).toNat = i + 1 := by omega
  rw [show chainF A (f + 1) ((i : Int) + 1) = if 1 ≤ (i : Int) + 1 ∧ A.ver ((i : Int) + 1 - 1).toNat = true then ((i : Int) + 1).toNat :: chainF A f (A.V ((i : Int) + 1 - 1).toNat).next else [] from rfl, e, e2, if_pos ⟨by omega, h⟩]

/-- The same store, so many steps on. -/
def ASt.at (A : ASt) (st : Int) : ASt := { A with steps := st }

theorem nums_more1 {w5 : World} {v v' : Value} {cs : List Nat} {B : Part} {c : Nat} (ob : Obj) (h : Has o w0 w (B.sep (.nums v cs))) (happ : Appended (w.alloc ob) w5 3 1 v v' (cs.length + 1) ((cs.map fun c : Nat => Value.int .i64 (c : Int)) ++ [.int .i64 c])) :
    Has o w0 w5 (B.sep (.nums v' (cs ++ [c]))) := by
  obtain ⟨o1, h1, _, _, b1⟩ := h.right
  have h3 := Has.rowAppend ob h1 happ
  refine b1 _ _ ?_
  unfold Part.nums
  rw [List.length_append, List.map_append]
  exact h3

theorem stp_load2 {B : Part} (h : Has o w0 w ((StP b x A).sep B)) (hr : StRep x.S x.C A) (l : Loc) (v : Int) (hl : A.at_ l = some v) :
    Calls Tryd.prog 51 #[.pointer (some ⟨x.ab, 0, none⟩), .int .i64 (x.C.of l)] w fun e w' => e = .returned (.tuple #[.int .u64 v, .int .i64 0]) ∧ Has o w0 w' ((StP b { x with S := x.S.step } A.step).sep B) := by
  obtain ⟨o1, h1, _, _, b1⟩ := h.left
  refine (stp_load h1 hr l v hl).mono ?_
  rintro e w' ⟨rfl, h'⟩
  exact ⟨rfl, b1 _ _ h'⟩

set_option maxHeartbeats 4000000 in
set_option maxRecDepth 100000 in
theorem chain_walk (h : Has o w0 w (StP b x A)) (hr : StRep x.S x.C A) (n : Int) (hn : n ≤ A.nV) (hV : A.nV ≤ 1000000000) :
    Calls Tryd.prog 63 #[.pointer (some ⟨b, 0, none⟩), .int .i64 n] w fun e w' => ∃ lv S st, e = .returned lv ∧ StRep S x.C (A.at st) ∧ Has o w0 w' ((StP b { x with S := S } (A.at st)).sep (.nums lv (chainF A n.toNat n))) := by
  obtain ⟨g, cap, hvv⟩ : ∃ g cap, 0 < A.nV → x.vv = .slice (some ⟨g, 0, none⟩) A.nV cap := by
    by_cases h0 : 0 < A.nV
    · obtain ⟨g, cap, e⟩ := StP.verSlice h h0
      exact ⟨g, cap, fun _ => e⟩
    · exact ⟨0, 0, fun h => absurd h h0⟩
  have HV0 := Lib.hid (version_any h n hvv)
  have HX := Lib.hid (h.beside (Has.nilNums _))
  have HR := Lib.hid hr
  have HVV := Lib.hid hvv
  obtain ⟨i0, hi0, hz0, hz1, hz2⟩ := info_parts info_num
  clear h hr hvv
  go_enter Tryd.func63, Tryd.ntmps63
  go_wp2_with fail
  refine HV0.out.mono ?_
  rintro e w' ⟨rfl, rfl⟩
  go_wp2_with fail
  go_loopg [1, 5, 6] (n.toNat + 1) (fun k nv lv pv wr => ∃ (m : Int) (f : Nat) (cs : List Nat) (S : Ar) (st : Int), nv = .int .i64 m ∧ m ≤ f ∧ f ≤ n.toNat ∧ k = f + 1 ∧ pv = .pointer (verAt A g m) ∧ chainF A n.toNat n = cs ++ chainF A f m ∧ cs.length + f ≤ n.toNat ∧ StRep S x.C (A.at st) ∧ Has o w0 wr ((StP b { x with S := S } (A.at st)).sep (.nums lv cs)))
  case atStart => exact ⟨n, n.toNat, [], x.S, A.steps, rfl, by omega, Nat.le_refl _, rfl, rfl, rfl, by simp, HR.out, HX.out⟩
  case round =>
    clear HX HV0
    obtain ⟨m, f, cs, S, st, rfl, hmf, hfn, hk, rfl, hcs, hlen, hr, hX⟩ := hrel
    have HKK := Lib.hid hk
    have HCS := Lib.hid hcs
    by_cases hc : 1 ≤ m ∧ A.ver (m - 1).toNat = true
    · obtain ⟨i, rfl⟩ : ∃ i : Nat, m = (i : Int) + 1 := ⟨(m - 1).toNat, by omega⟩
      have ei : ((i : Int) + 1 - 1).toNat = i := by omega
      rw [ei] at hc
      obtain ⟨f', rfl⟩ : ∃ f', f = f' + 1 := ⟨f - 1, by omega⟩
      have hlt := ver_lt hc.2
      have hl : (A.at st).at_ (.next i) = some (A.V i).next := by show (if A.ver i = true then some (A.V i).next else none) = _; rw [if_pos hc.2]
      have hnx := hr.nextLe i _ hl
      have hwd := hr.word _ _ hl
      rw [verAt_some hc.2]
      rw [chainF_go hc.2] at hcs
      have HCS := Lib.hid hcs
      obtain ⟨o3, h3, _⟩ := hX.right
      obtain ⟨np, nc, hnv, hnl, hrow, _⟩ := nums_open h3
      have HROW := Lib.hid hrow
      have HX := Lib.hid hX
      have HR2 := Lib.hid hr
      have HL := Lib.hid hl
      have hvg := HVV.out (by omega)
      have HVG := Lib.hid hvg
      have hl9 : cs.length ≤ 1000000000 := by omega
      have e9 : IntKind.i64.wrap (A.V i).next = (A.V i).next := by unfold IntKind.wrap; simp [IntKind.bits, IntKind.signed]; omega
      have hVT := hc.2
      clear hk hcs hX h3 hnv hrow hr hl hvg hnl hc
      go_wp2_with (at_builtin; refine wpList_append_new rfl (.tmp 17) (.tmp 19) 22 rfl 3 i0 (.int .i64 0) 1 8 Tryd.underlying22 hi0 hz0 hz1 hz2 rfl (by decide) _ _ _ rfl (HROW.out.alloc _) ⟨_, 0, none⟩ 1 1 [.int .i64 ((i : Int) + 1)] rfl rfl (cell_one _ _ _ _ (by simp)) (by simp [Value.oneCell']) (by simp only [maxLen]; omega) (by omega) ?_)
      intro v' w5 happ
      have HX5 := Lib.hid (nums_more1 (c := i + 1) _ HX.out happ)
      obtain ⟨o4, h4, _⟩ := HX5.out.left
      obtain ⟨c0, _, _, _⟩ := StP.fields h4
      obtain ⟨_, _, _, c1⟩ := StP.verCells h4 hlt HVG.out
      have HLD := Lib.hid (fun (w' : World) (hw : Has o w0 w' ((StP b { x with S := S } (A.at st)).sep (.nums v' (cs ++ [i + 1])))) => stp_load2 hw HR2.out (.next i) (A.V i).next HL.out)
      clear happ HROW HX h4
      go_wp2_with fail
      go_region_held3 (fun w' => w'.cell? ⟨b, 0, none⟩ = some (.pointer (some ⟨x.ab, 0, none⟩)) ∧ w'.cell? ⟨g, i * 5 + 3, none⟩ = some (.int .i64 ((x.C.v i).2.2)))
        (first | exact ⟨c0, c1⟩ | exact ⟨d0, d1⟩)
        (first | (go_at_call 51
                  refine (HLD.out _ (HX5.out.quiet ((Kept.refl _ _).drew))).mono ?_
                  rintro e w4 ⟨rfl, hX4⟩
                  obtain ⟨o4, h4, _⟩ := hX4.left
                  obtain ⟨d0, _, _, _⟩ := StP.fields h4
                  obtain ⟨_, _, _, d1⟩ := StP.verCells h4 hlt HVG.out
                  have HX4 := Lib.hid hX4
                  clear hX4 h4))
      obtain ⟨o6, h6, _⟩ := HX4.out.left
      have HV2 := Lib.hid (version_any h6 (A.V i).next (g := g) (cap := cap) HVV.out)
      clear h6
      go_wp2_with fail
      refine HV2.out.mono ?_
      rintro e w7 ⟨rfl, rfl⟩
      go_wp2_with fail
      go_roundg (f' + 1)
      case measure => rw [HKK.out]; omega
      case rel =>
        refine ⟨(A.V i).next, f', cs ++ [i + 1], S.step, _, rfl, by omega, by omega, rfl, rfl, ?_, ?_, HR2.out.step, HX4.out⟩
        · rw [HCS.out]; simp
        · rw [List.length_append]; simp; omega
    · have hve : verAt A g m = none := by unfold verAt; rw [if_neg hc]
      rw [hve]
      rw [chainF_stop hc, List.append_nil] at hcs
      have HCS := Lib.hid hcs
      have HX := Lib.hid hX
      have HR2 := Lib.hid hr
      clear hk hcs hX hr hc hve
      go_wp2_with fail
      go_ret
      exact ⟨_, S, st, rfl, HR2.out, by rw [HCS.out]; exact HX.out⟩
end Go.Proofs.YtbodobdllchmgaaDoor
