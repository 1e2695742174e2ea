/- The walk of Cut. -/
import Derived.Test.YtlaffmdflleeeaaDoorStoreAway
namespace Go.Proofs.YtlaffmdflleeeaaDoor
open Go Go.RowKit
set_option linter.unusedVariables false

variable {o : List Nat} {w0 w : World} {b : Nat} {x : StIx} {A : ASt}

/-- Many versions that are no more. -/
def ASt.goneAll (A : ASt) (l : List Nat) : ASt := l.foldl (fun A v => A.goneV (v - 1)) A

theorem goneAll_snoc (A : ASt) (l : List Nat) (v : Nat) : A.goneAll (l ++ [v]) = (A.goneAll l).goneV (v - 1) := by
  unfold ASt.goneAll
  rw [List.foldl_append]; rfl
theorem goneAll_nV (A : ASt) (l : List Nat) : (A.goneAll l).nV = A.nV := by
  unfold ASt.goneAll
  induction l generalizing A with
  | nil => rfl
  | cons v l ih => rw [List.foldl_cons, ih]; rfl
theorem goneAll_ver (A : ASt) (l : List Nat) (j : Nat) (h : ∀ v ∈ l, 1 ≤ v) : (A.goneAll l).ver j = (A.ver j && decide (j + 1 ∉ l)) := by
  unfold ASt.goneAll
  induction l generalizing A with
  | nil => simp
  | cons v l ih =>
    rw [List.foldl_cons, ih _ fun u hu => h u (by simp [hu]), goneV_ver]
    have h1 := h v (by simp)
    by_cases e : j = v - 1
    · simp [e]
      omega
    · have : j + 1 ≠ v := by omega
      simp [e, this]

theorem chainF_mem {S : Ar} {C : Cells} {A : ASt} (hr : StRep S C A) (f : Nat) (n : Int) : (∀ v ∈ chainF A f n, 1 ≤ v ∧ (v : Int) ≤ n ∧ A.ver (v - 1) = true) ∧ (chainF A f n).Pairwise (· > ·) := by
  induction f generalizing n with
  | zero => exact ⟨fun v hv => by simp [chainF] at hv, List.Pairwise.nil⟩
  | succ f ih =>
    by_cases hc : 1 ≤ n ∧ A.ver (n - 1).toNat = true
    · obtain ⟨i, rfl⟩ : ∃ i : Nat, n = (i : Int) + 1 := ⟨(n - 1).toNat, by omega⟩
      have e : ((i : Int) + 1 - 1).toNat = i := by omega
      rw [e] at hc
      rw [chainF_go hc.2]
      have hnx := hr.nextLe i (A.V i).next (by show (if A.ver i = true then some (A.V i).next else none) = _; rw [if_pos hc.2])
      obtain ⟨h1, h2⟩ := ih (A.V i).next
      refine ⟨fun v hv => ?_, ?_⟩
      · rcases List.mem_cons.1 hv with rfl | hv
        · exact ⟨by omega, by omega, by simpa using hc.2⟩
        · obtain ⟨a, b, c⟩ := h1 v hv
          exact ⟨a, by omega, c⟩
      · rw [List.pairwise_cons]
        exact ⟨fun v hv => by have := (h1 v hv).2.1; show i + 1 > v; omega, h2⟩
    · rw [chainF_stop hc]
      exact ⟨fun v hv => by simp at hv, List.Pairwise.nil⟩

theorem stp_store3 {B : Part} (h : Has o w0 w ((StP b x A).sep B)) (hr : StRep x.S x.C A) (l : Loc) (u v : Int) (hl : A.at_ l = some u) :
    Calls Tryd.prog 44 #[.pointer (some ⟨x.ab, 0, none⟩), .int .i64 (x.C.of l), .int .u64 v] w fun e w' => e = .returned (.int .i64 0) ∧ Has o w0 w' ((StP b { x with S := x.S.step.put (x.C.of l) v } (A.step.set l v)).sep B) := by
  obtain ⟨o1, h1, _, _, b1⟩ := h.left
  refine (stp_store h1 hr l u v hl).mono ?_
  rintro e w' ⟨rfl, h'⟩
  exact ⟨rfl, b1 _ _ h'⟩

theorem away2 {B : Part} (h : Has o w0 w ((StP b x A).sep B)) (hr : StRep x.S x.C A) (i : Nat) (hv : A.ver i = true) {g cap : Nat} (hvv : x.vv = .slice (some ⟨g, 0, none⟩) A.nV cap) :
    Calls Tryd.prog 45 #[.pointer (some ⟨b, 0, none⟩), .pointer (some ⟨g, i * 5, none⟩)] w fun e w' => e = .returned (.tuple #[]) ∧ ∃ S, StRep S x.C (A.goneV i) ∧ Has o w0 w' ((StP b { x with S := S } (A.goneV i)).sep B) := by
  obtain ⟨o1, h1, _, _, b1⟩ := h.left
  refine (away_walk h1 hr i hv hvv).mono ?_
  rintro e w' ⟨rfl, S, hS, h'⟩
  exact ⟨rfl, S, hS, b1 _ _ h'⟩

set_option maxHeartbeats 8000000 in
set_option maxRecDepth 100000 in
theorem cut_at (h : Has o w0 w (.store b A)) (i : Nat) (nx : Int) (hl : A.at_ (.next i) = some nx) (hV : A.nV ≤ 1000000000) :
    Calls Tryd.prog 19 #[.pointer (some ⟨b, 0, none⟩), .int .i64 ((i : Int) + 1)] w fun e w' => e = .returned (.tuple #[.int .i64 ((chainF A nx.toNat nx).length : Nat), .int .i64 0]) ∧ ∃ st, Has o w0 w' (.store b (((A.at st).set (.next i) 0).goneAll (chainF A nx.toNat nx))) := by
  obtain ⟨x, hr, h⟩ := h.stOpen
  have hver := at_next hl
  have hlt := ver_lt hver
  obtain ⟨g, cap, hvv⟩ := StP.verSlice h hlt
  obtain ⟨c0, _, _, _⟩ := StP.fields h
  obtain ⟨_, _, _, c1⟩ := StP.verCells h hlt hvv
  have hw9 := hr.word _ nx hl
  have hle := hr.nextLe i nx hl
  have HV := Lib.hid (version_at h i hver hvv)
  have HL := Lib.hid (fun (w' : World) (hw : Has o w0 w' (StP b x A)) => stp_load hw hr (.next i) nx hl)
  have HX := Lib.hid h
  have HR := Lib.hid hr
  have HVV := Lib.hid hvv
  have HL0 := Lib.hid hl
  have e9 : IntKind.i64.wrap nx = nx := by unfold IntKind.wrap; simp [IntKind.bits, IntKind.signed]; omega
  clear h hr hl hvv
  go_enter Tryd.func19, Tryd.ntmps19
  go_wp2_with fail
  refine HV.out.mono ?_
  rintro e w' ⟨rfl, rfl⟩
  go_wp2_with fail
  go_region_held3 (fun w' => w'.cell? ⟨b, 0, none⟩ = some (.pointer (some ⟨x.ab, 0, none⟩)) ∧ w'.cell? ⟨g, i * 5 + 3, none⟩ = some (.int .i64 ((x.C.v i).2.2)))
    (first | exact ⟨c0, c1⟩ | exact ⟨d0, d1⟩)
    (first | (go_at_call 41
              refine (HL.out _ (HX.out.quiet ((Kept.refl _ _).drew))).mono ?_
              rintro e w4 ⟨rfl, hX4⟩
              obtain ⟨d0, _, _, _⟩ := StP.fields hX4
              obtain ⟨_, _, _, d1⟩ := StP.verCells hX4 hlt HVV.out
              have HX4 := Lib.hid hX4
              clear hX4))
  have HCH := Lib.hid (chain_walk HX4.out HR.out.step nx (by show nx ≤ (A.nV : Int); omega) hV)
  clear c0 c1 d0 d1
  go_wp2_with fail
  refine HCH.out.mono ?_
  rintro e w7 ⟨lv, S, st, rfl, hr7, hX7⟩
  rw [show A.step = A.at (wrap64 (A.steps + 1)) from rfl, chainF_at] at hX7
  have hmem := chainF_mem HR.out nx.toNat nx
  generalize hcs : chainF A nx.toNat nx = cs at *
  have HCS := Lib.hid hcs
  have hr7' : StRep S x.C (A.at st) := hr7
  have hX7' : Has o w0 w7 ((StP b { x with S := S } (A.at st)).sep (.nums lv cs)) := hX7
  obtain ⟨o3, h3, _⟩ := hX7'.right
  obtain ⟨np, nc, rfl, hnl, _, _⟩ := nums_open h3
  obtain ⟨o4, h4, _⟩ := hX7'.left
  obtain ⟨c0, _, _, _⟩ := StP.fields h4
  obtain ⟨_, _, _, c1⟩ := StP.verCells h4 hlt HVV.out
  have HST := Lib.hid (fun (w' : World) (hw : Has o w0 w' ((StP b { x with S := S } (A.at st)).sep (.nums (.slice np cs.length nc) cs))) => stp_store3 hw hr7' (.next i) nx 0 HL0.out)
  have HR8 := Lib.hid (hr7'.step.put (l := .next i) (u := nx) (v := 0) HL0.out ⟨by omega, by omega⟩ (fun _ e => by cases e) (fun _ _ => by omega))
  have HX7 := Lib.hid hX7'
  have HMEM := Lib.hid hmem
  have hc9 : cs.length ≤ 9223372036854775807 := Nat.le_trans hnl (by decide)
  clear hX7' hr7' hX7 hr7 h3 h4 hmem hcs HCH HX4
  go_wp2_with fail
  go_region_held3 (fun w' => w'.cell? ⟨b, 0, none⟩ = some (.pointer (some ⟨x.ab, 0, none⟩)) ∧ w'.cell? ⟨g, i * 5 + 3, none⟩ = some (.int .i64 ((x.C.v i).2.2)))
    (first | exact ⟨c0, c1⟩ | exact ⟨f0, f1⟩)
    (first | (go_at_call 44
              refine (HST.out _ (HX7.out.quiet ((Kept.refl _ _).drew))).mono ?_
              rintro e w8 ⟨rfl, hX8⟩
              obtain ⟨_, h5, _⟩ := hX8.left
              obtain ⟨f0, _, _, _⟩ := StP.fields h5
              obtain ⟨_, _, _, f1⟩ := StP.verCells h5 (A := (A.at st).step.set (.next i) 0) hlt HVV.out
              have HX8 := Lib.hid hX8
              clear hX8 h5))
  clear c0 c1 f0 f1 HST HX7
  go_wp2_with fail
  have hA1 : ∀ l : List Nat, (((A.at st).step.set (.next i) 0).goneAll l).nV = A.nV := fun l => by rw [goneAll_nV]; rfl
  have HA1 := Lib.hid hA1
  clear hA1
  go_loopg [46] cs.length (fun k iv wr => ∃ (j : Nat) (S' : Ar), j ≤ cs.length ∧ k = cs.length - j ∧ iv = .int .i64 j ∧ StRep S' x.C (((A.at st).step.set (.next i) 0).goneAll (cs.take j)) ∧ Has o w0 wr ((StP b { x with S := S' } (((A.at st).step.set (.next i) 0).goneAll (cs.take j))).sep (.nums (.slice np cs.length nc) cs)))
  case atStart => exact ⟨0, _, Nat.zero_le _, rfl, rfl, HR8.out, HX8.out⟩
  case round =>
    clear HX8 HR8
    obtain ⟨j, S', hj, hk, rfl, hrj, hXj⟩ := hrel
    have HKJ := Lib.hid hk
    by_cases hjl : j < cs.length
    · have e1 : decide ((j : Int) < (cs.length : Int)) = true := by simp; omega
      have e1' : decide (j < cs.length) = true := by simp; omega
      obtain ⟨o3, h3, _⟩ := hXj.right
      obtain ⟨_, _, he, _, _, hc⟩ := nums_open h3
      obtain ⟨gn, hgn, hc⟩ := hc (by omega)
      have c2 := hc j hjl
      have hpg : np = some ⟨gn, 0, none⟩ := by simp only [Value.slice.injEq] at he; rw [he.1, hgn]
      obtain ⟨m1, m2, m3⟩ := HMEM.out.1 cs[j] (List.getElem_mem hjl)
      have hnot : cs[j] ∉ cs.take j := fun hm => by
        obtain ⟨d, hd, e⟩ := List.mem_iff_getElem.1 hm
        rw [List.length_take] at hd
        rw [List.getElem_take] at e
        have := List.pairwise_iff_getElem.1 HMEM.out.2 d j (by omega) hjl (by omega)
        omega
      have hsn : cs.take (j + 1) = cs.take j ++ [cs[j]] := by rw [List.take_add_one, List.getElem?_eq_getElem hjl]; rfl
      have hall : ∀ v ∈ cs.take j, 1 ≤ v := fun v hv => (HMEM.out.1 v (List.mem_of_mem_take hv)).1
      have hvj : (((A.at st).step.set (.next i) 0).goneAll (cs.take j)).ver (cs[j] - 1) = true := by
        rw [goneAll_ver _ _ _ hall, ASt.ver_set]
        have e3 : cs[j] - 1 + 1 = cs[j] := by omega
        rw [e3]
        have m4 : (A.at st).step.ver (cs[j] - 1) = true := m3
        rw [m4]
        simpa using hnot
      obtain ⟨i2, hi2⟩ : ∃ i2, cs[j] = i2 + 1 := ⟨cs[j] - 1, by omega⟩
      rw [hi2] at c2 hsn hvj
      simp only [Nat.add_sub_cancel] at hvj
      have HSN := Lib.hid hsn
      obtain ⟨o4, h4, _⟩ := hXj.left
      have hvv4 : x.vv = .slice (some ⟨g, 0, none⟩) (((A.at st).step.set (.next i) 0).goneAll (cs.take j)).nV cap := by rw [HA1.out]; exact HVV.out
      have HVJ := Lib.hid (version_at h4 i2 hvj hvv4)
      have HAW := Lib.hid (away2 hXj hrj i2 hvj hvv4)
      have hcast : ((i2 + 1 : Nat) : Int) = (i2 : Int) + 1 := by simp
      rw [hcast] at c2
      clear hk hrj hXj h3 h4 hc he hgn hnot hsn hall hvj hi2 hvv4 hcast m1 m2 m3
      subst hpg
      go_wp2_with fail
      refine HVJ.out.mono ?_
      rintro e w9 ⟨rfl, rfl⟩
      go_wp2_with fail
      refine HAW.out.mono ?_
      rintro e w10 ⟨rfl, S2, hr10, hX10⟩
      have HR10 := Lib.hid hr10
      have HX10 := Lib.hid hX10
      clear hr10 hX10
      go_wp2_with fail
      go_roundg (cs.length - (j + 1))
      case measure => rw [HKJ.out]; omega
      case rel => exact ⟨j + 1, S2, by omega, rfl, by go_num, by rw [HSN.out, goneAll_snoc]; exact HR10.out, by rw [HSN.out, goneAll_snoc]; exact HX10.out⟩
    · have e1 : decide ((j : Int) < (cs.length : Int)) = false := by simp; omega
      have e1' : decide (j < cs.length) = false := by simp; omega
      obtain rfl : j = cs.length := by omega
      rw [List.take_length] at hrj hXj
      have HRJ := Lib.hid hrj
      have HXJ := Lib.hid hXj
      clear hk hrj hXj
      go_wp2_with fail
      go_ret2
      rw [HCS.out]
      exact ⟨rfl, wrap64 (st + 1), Has.stShut (x := { x with S := S' }) HRJ.out HXJ.out.fst⟩
end Go.Proofs.YtlaffmdflleeeaaDoor
