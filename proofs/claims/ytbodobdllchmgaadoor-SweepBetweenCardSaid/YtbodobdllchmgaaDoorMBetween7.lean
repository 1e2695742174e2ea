/- The walk of Forget.
The walk of Cut.
The walk of Drop, where there is a version.
The walks of what the reference asks of words, and of states.
The walks of the reference's loads, swaps and sets (printed by mkref.py).
The walk of Version, where it makes one. -/
import Derived.Test.YtbodobdllchmgaaDoorMBetween6
import Derived.Test.YtbodobdllchmgaaDoorMBetween4
import Derived.Laws.Bits64b
import Derived.Test.YtbodobdllchmgaaDoorMBetween5
import Derived.BigRegion
namespace Go.Proofs.YtbodobdllchmgaaDoor
open Go Go.RowKit
set_option linter.unusedVariables false

variable {o : List Nat} {w0 w : World} {b : Nat} {x : StIx} {A : ASt}

/-- A transaction that is no more. -/
def ASt.goneT (A : ASt) (i : Nat) : ASt := { A with T := fun j => if j = i then ((A.T j).1, true) else A.T j }

theorem goneT_txn (A : ASt) (i j : Nat) : (A.goneT i).txn j = (A.txn j && decide (j ≠ i)) := by
  unfold ASt.txn ASt.goneT
  by_cases e : j = i <;> simp [e]

theorem goneT_at {A : ASt} {i : Nat} {l : Loc} {v : Int} (h : (A.goneT i).at_ l = some v) : A.at_ l = some v ∧ l ≠ .state i := by
  cases l with
  | head j => exact ⟨h, by simp⟩
  | lock j => exact ⟨h, by simp⟩
  | begin_ j => exact ⟨h, by simp⟩
  | end_ j => exact ⟨h, by simp⟩
  | next j => exact ⟨h, by simp⟩
  | state j =>
    simp only [ASt.at_, goneT_txn] at h ⊢
    by_cases e : j = i
    · subst e; simp at h
    · simp only [ASt.goneT, if_neg e] at h
      simp [e] at h
      exact ⟨by simpa using h, by simpa using e⟩

theorem cntB_goneT {A : ASt} {i : Nat} (n : Nat) (hi : i < n) (hg : (A.T i).2 = false) : cntB (fun j => !((A.goneT i).T j).2) n + 1 = cntB (fun j => !(A.T j).2) n := by
  have same : ∀ m, m ≤ i → cntB (fun j => !((A.goneT i).T j).2) m = cntB (fun j => !(A.T j).2) m := by
    intro m
    induction m with
    | zero => intro _; rfl
    | succ m ih => intro hm; unfold cntB; rw [ih (by omega)]; simp only [ASt.goneT, if_neg (show ¬ m = i by omega)]
  induction n with
  | zero => omega
  | succ n ih =>
    unfold cntB
    by_cases e : i = n
    · subst e
      rw [same i (Nat.le_refl _), hg]; simp [ASt.goneT]
    · have := ih (by omega)
      simp only [ASt.goneT, if_neg (show ¬ n = i from fun h => e h.symm)] at this ⊢
      omega

theorem StRep.goneT {S : Ar} {C : Cells} {A : ASt} {i : Nat} (h : StRep S C A) (hv : A.txn i = true) (hlt : ∀ c, (S.get c).isSome = true → c < S.size) :
    (S.get (C.t i)).isSome = true ∧ StRep (dropAll S [C.t i]) C (A.goneT i) := by
  have hi := txn_lt hv
  have hgone : (A.T i).2 = false := by unfold ASt.txn at hv; simp at hv; exact hv.2
  have a1 : A.at_ (.state i) = some (A.T i).1 := by show (if A.txn i = true then _ else none) = _; rw [if_pos hv]
  have g1 : S.get (C.t i) = some (A.T i).1 := h.has _ _ a1
  have hsm : (S.get (C.t i)).isSome = true := by rw [g1]; rfl
  have hout : ∀ l v, (A.goneT i).at_ l = some v → C.of l ∉ [C.t i] := by
    intro l v hl hm
    obtain ⟨k0, k1⟩ := goneT_at hl
    exact k1 (h.inj l (.state i) (by rw [k0]; rfl) (by rw [a1]; rfl) (List.mem_singleton.1 hm))
  have down : ∀ l, ((A.goneT i).at_ l).isSome = true → (A.at_ l).isSome = true := fun l hl => by
    obtain ⟨v, hv⟩ := Option.isSome_iff_exists.1 hl
    rw [(goneT_at hv).1]; rfl
  refine ⟨hsm, ⟨by rw [dropAll_size]; exact h.size, h.big, by rw [dropAll_steps]; exact h.steps, fun l v hl => ?_, fun l l' ha hb e => h.inj l l' (down l ha) (down l' hb) e, ?_, fun l v hl => h.word l v (goneT_at hl).1, fun j v hl => h.headLe j v (goneT_at hl).1, fun j v hl => h.nextLe j v (goneT_at hl).1⟩⟩
  · rw [dropAll_get, if_neg (hout l v hl)]
    exact h.has l v (goneT_at hl).1
  · rw [dropAll_size]
    have h1 := cnt_dropAll S [C.t i] S.size (by simp) (fun c hc => by rw [List.mem_singleton.1 hc]; exact ⟨hsm, hlt _ hsm⟩)
    have h2 := cntB_goneT (A := A) A.nT hi hgone
    have h3 := h.count
    simp only [List.length_cons, List.length_nil] at h1
    unfold ASt.used at h3 ⊢
    show cnt _ _ = 2 * A.nN + 3 * cntB (fun j => !(A.V j).gone) A.nV + cntB (fun j => !((A.goneT i).T j).2) A.nT
    omega

theorem stp_goneT (h : Has o w0 w (StP b x A)) {i : Nat} (hi : i < A.nT) {g cap : Nat} (hvv : x.tv = .slice (some ⟨g, 0, none⟩) A.nT cap) :
    (∃ u, w.cell? ⟨g, i * 2 + 1, none⟩ = some u) ∧ w.frozen? ⟨g, i * 2 + 1, none⟩ = false ∧ Has o w0 (w.setCell ⟨g, i * 2 + 1, none⟩ (.bool true)) (StP b x (A.goneT i)) := by
  obtain ⟨o1, h1, _, _, b1⟩ := h.right
  obtain ⟨o2, h2, _, _, b2⟩ := h1.right
  obtain ⟨o3, h3, _, _, b3⟩ := h2.right
  obtain ⟨g', cap', e, hc, hf, hput⟩ := h3.rowsAt (txnF_len _ _) hi
  rw [hvv] at e
  obtain ⟨rfl, rfl⟩ : g = g' ∧ cap = cap' := by simpa using e
  refine ⟨⟨_, hc 1 _ rfl⟩, hf _, ?_⟩
  have h4 := hput 1 (.bool true) (by omega)
  have e2 : (fun d => if d = i then (txnF x.C A i).set 1 (.bool true) else txnF x.C A d) = txnF x.C (A.goneT i) := funext fun d => by
    unfold txnF ASt.goneT
    by_cases ed : d = i
    · subst ed; simp
    · simp [ed]
  rw [e2] at h4
  exact b1 _ _ (b2 _ _ (b3 _ _ h4))

theorem numsMade1 (w : World) (c1 n : Nat) (hn : n = w.heap.size) : Has [] w (w.alloc (.cells #[.int .i64 (c1 : Nat)] 3)) (.nums (.slice (some ⟨n, 0, none⟩) 1 1) [c1]) := by
  subst hn
  have h := Has.made (w := w) 3 #[.int .i64 (c1 : Nat)] (by simp only [maxLen]; simp)
  exact h

end Go.Proofs.YtbodobdllchmgaaDoor
namespace Go.Proofs.YtbodobdllchmgaaDoor
open Go Go.RowKit
set_option linter.unusedVariables false

variable {o : List Nat} {w0 w : World} {b : Nat} {x : StIx} {A : ASt}

/-- Many versions that are no more. -/
def ASt.goneAll (A : ASt) (l : List Nat) : ASt := l.foldl (fun A v => A.goneV (v - 1)) A

theorem goneAll_snoc (A : ASt) (l : List Nat) (v : Nat) : A.goneAll (l ++ [v]) = (A.goneAll l).goneV (v - 1) := by
  unfold ASt.goneAll
  rw [List.foldl_append]; rfl
theorem goneAll_nV (A : ASt) (l : List Nat) : (A.goneAll l).nV = A.nV := by
  unfold ASt.goneAll
  induction l generalizing A with
  | nil => rfl
  | cons v l ih => rw [List.foldl_cons, ih]; rfl
theorem goneAll_ver (A : ASt) (l : List Nat) (j : Nat) (h : ∀ v ∈ l, 1 ≤ v) : (A.goneAll l).ver j = (A.ver j && decide (j + 1 ∉ l)) := by
  unfold ASt.goneAll
  induction l generalizing A with
  | nil => simp
  | cons v l ih =>
    rw [List.foldl_cons, ih _ fun u hu => h u (by simp [hu]), goneV_ver]
    have h1 := h v (by simp)
    by_cases e : j = v - 1
    · simp [e]
      omega
    · have : j + 1 ≠ v := by omega
      simp [e, this]

theorem chainF_mem {S : Ar} {C : Cells} {A : ASt} (hr : StRep S C A) (f : Nat) (n : Int) : (∀ v ∈ chainF A f n, 1 ≤ v ∧ (v : Int) ≤ n ∧ A.ver (v - 1) = true) ∧ (chainF A f n).Pairwise (· > ·) := by
  induction f generalizing n with
  | zero => exact ⟨fun v hv => by simp [chainF] at hv, List.Pairwise.nil⟩
  | succ f ih =>
    by_cases hc : 1 ≤ n ∧ A.ver (n - 1).toNat = true
    · obtain ⟨i, rfl⟩ : ∃ i : Nat, n = (i : Int) + 1 := ⟨(n - 1).toNat, by omega⟩
      have e : ((i : Int) + 1 - 1).toNat = i := by omega
      rw [e] at hc
      rw [chainF_go hc.2]
      have hnx := hr.nextLe i (A.V i).next (by show (if A.ver i = true then some (A.V i).next else none) = _; rw [if_pos hc.2])
      obtain ⟨h1, h2⟩ := ih (A.V i).next
      refine ⟨fun v hv => ?_, ?_⟩
      · rcases List.mem_cons.1 hv with rfl | hv
        · exact ⟨by omega, by omega, by simpa using hc.2⟩
        · obtain ⟨a, b, c⟩ := h1 v hv
          exact ⟨a, by omega, c⟩
      · rw [List.pairwise_cons]
        exact ⟨fun v hv => by have := (h1 v hv).2.1; show i + 1 > v; omega, h2⟩
    · rw [chainF_stop hc]
      exact ⟨fun v hv => by simp at hv, List.Pairwise.nil⟩

theorem stp_store3 {B : Part} (h : Has o w0 w ((StP b x A).sep B)) (hr : StRep x.S x.C A) (l : Loc) (u v : Int) (hl : A.at_ l = some u) :
    Calls Tryd.prog 61 #[.pointer (some ⟨x.ab, 0, none⟩), .int .i64 (x.C.of l), .int .u64 v] w fun e w' => e = .returned (.int .i64 0) ∧ Has o w0 w' ((StP b { x with S := x.S.step.put (x.C.of l) v } (A.step.set l v)).sep B) := by
  obtain ⟨o1, h1, _, _, b1⟩ := h.left
  refine (stp_store h1 hr l u v hl).mono ?_
  rintro e w' ⟨rfl, h'⟩
  exact ⟨rfl, b1 _ _ h'⟩

theorem away2 {B : Part} (h : Has o w0 w ((StP b x A).sep B)) (hr : StRep x.S x.C A) (i : Nat) (hv : A.ver i = true) {g cap : Nat} (hvv : x.vv = .slice (some ⟨g, 0, none⟩) A.nV cap) :
    Calls Tryd.prog 87 #[.pointer (some ⟨b, 0, none⟩), .pointer (some ⟨g, i * 5, none⟩)] w fun e w' => e = .returned (.tuple #[]) ∧ ∃ S, StRep S x.C (A.goneV i) ∧ Has o w0 w' ((StP b { x with S := S } (A.goneV i)).sep B) := by
  obtain ⟨o1, h1, _, _, b1⟩ := h.left
  refine (away_walk h1 hr i hv hvv).mono ?_
  rintro e w' ⟨rfl, S, hS, h'⟩
  exact ⟨rfl, S, hS, b1 _ _ h'⟩

set_option maxHeartbeats 8000000 in
set_option maxRecDepth 100000 in
theorem cut_at (h : Has o w0 w (.store b A)) (i : Nat) (nx : Int) (hl : A.at_ (.next i) = some nx) (hV : A.nV ≤ 1000000000) :
    Calls Tryd.prog 85 #[.pointer (some ⟨b, 0, none⟩), .int .i64 ((i : Int) + 1)] w fun e w' => e = .returned (.tuple #[.int .i64 ((chainF A nx.toNat nx).length : Nat), .int .i64 0]) ∧ ∃ st, Has o w0 w' (.store b (((A.at st).set (.next i) 0).goneAll (chainF A nx.toNat nx))) := by
  obtain ⟨x, hr, h⟩ := h.stOpen
  have hver := at_next hl
  have hlt := ver_lt hver
  obtain ⟨g, cap, hvv⟩ := StP.verSlice h hlt
  obtain ⟨c0, _, _, _⟩ := StP.fields h
  obtain ⟨_, _, _, c1⟩ := StP.verCells h hlt hvv
  have hw9 := hr.word _ nx hl
  have hle := hr.nextLe i nx hl
  have HV := Lib.hid (version_at h i hver hvv)
  have HL := Lib.hid (fun (w' : World) (hw : Has o w0 w' (StP b x A)) => stp_load hw hr (.next i) nx hl)
  have HX := Lib.hid h
  have HR := Lib.hid hr
  have HVV := Lib.hid hvv
  have HL0 := Lib.hid hl
  have e9 : IntKind.i64.wrap nx = nx := by unfold IntKind.wrap; simp [IntKind.bits, IntKind.signed]; omega
  clear h hr hl hvv
  go_enter Tryd.func85, Tryd.ntmps85
  go_wp2_with fail
  refine HV.out.mono ?_
  rintro e w' ⟨rfl, rfl⟩
  go_wp2_with fail
  go_region_held3 (fun w' => w'.cell? ⟨b, 0, none⟩ = some (.pointer (some ⟨x.ab, 0, none⟩)) ∧ w'.cell? ⟨g, i * 5 + 3, none⟩ = some (.int .i64 ((x.C.v i).2.2)))
    (first | exact ⟨c0, c1⟩ | exact ⟨d0, d1⟩)
    (first | (go_at_call 51
              refine (HL.out _ (HX.out.quiet ((Kept.refl _ _).drew))).mono ?_
              rintro e w4 ⟨rfl, hX4⟩
              obtain ⟨d0, _, _, _⟩ := StP.fields hX4
              obtain ⟨_, _, _, d1⟩ := StP.verCells hX4 hlt HVV.out
              have HX4 := Lib.hid hX4
              clear hX4))
  have HCH := Lib.hid (chain_walk HX4.out HR.out.step nx (by show nx ≤ (A.nV : Int); omega) hV)
  clear c0 c1 d0 d1
  go_wp2_with fail
  refine HCH.out.mono ?_
  rintro e w7 ⟨lv, S, st, rfl, hr7, hX7⟩
  rw [show A.step = A.at (wrap64 (A.steps + 1)) from rfl, chainF_at] at hX7
  have hmem := chainF_mem HR.out nx.toNat nx
  generalize hcs : chainF A nx.toNat nx = cs at *
  have HCS := Lib.hid hcs
  have hr7' : StRep S x.C (A.at st) := hr7
  have hX7' : Has o w0 w7 ((StP b { x with S := S } (A.at st)).sep (.nums lv cs)) := hX7
  obtain ⟨o3, h3, _⟩ := hX7'.right
  obtain ⟨np, nc, rfl, hnl, _, _⟩ := nums_open h3
  obtain ⟨o4, h4, _⟩ := hX7'.left
  obtain ⟨c0, _, _, _⟩ := StP.fields h4
  obtain ⟨_, _, _, c1⟩ := StP.verCells h4 hlt HVV.out
  have HST := Lib.hid (fun (w' : World) (hw : Has o w0 w' ((StP b { x with S := S } (A.at st)).sep (.nums (.slice np cs.length nc) cs))) => stp_store3 hw hr7' (.next i) nx 0 HL0.out)
  have HR8 := Lib.hid (hr7'.step.put (l := .next i) (u := nx) (v := 0) HL0.out ⟨by omega, by omega⟩ (fun _ e => by cases e) (fun _ _ => by omega))
  have HX7 := Lib.hid hX7'
  have HMEM := Lib.hid hmem
  have hc9 : cs.length ≤ 9223372036854775807 := Nat.le_trans hnl (by decide)
  clear hX7' hr7' hX7 hr7 h3 h4 hmem hcs HCH HX4
  go_wp2_with fail
  go_region_held3 (fun w' => w'.cell? ⟨b, 0, none⟩ = some (.pointer (some ⟨x.ab, 0, none⟩)) ∧ w'.cell? ⟨g, i * 5 + 3, none⟩ = some (.int .i64 ((x.C.v i).2.2)))
    (first | exact ⟨c0, c1⟩ | exact ⟨f0, f1⟩)
    (first | (go_at_call 61
              refine (HST.out _ (HX7.out.quiet ((Kept.refl _ _).drew))).mono ?_
              rintro e w8 ⟨rfl, hX8⟩
              obtain ⟨_, h5, _⟩ := hX8.left
              obtain ⟨f0, _, _, _⟩ := StP.fields h5
              obtain ⟨_, _, _, f1⟩ := StP.verCells h5 (A := (A.at st).step.set (.next i) 0) hlt HVV.out
              have HX8 := Lib.hid hX8
              clear hX8 h5))
  clear c0 c1 f0 f1 HST HX7
  go_wp2_with fail
  have hA1 : ∀ l : List Nat, (((A.at st).step.set (.next i) 0).goneAll l).nV = A.nV := fun l => by rw [goneAll_nV]; rfl
  have HA1 := Lib.hid hA1
  clear hA1
  go_loopg [46] cs.length (fun k iv wr => ∃ (j : Nat) (S' : Ar), j ≤ cs.length ∧ k = cs.length - j ∧ iv = .int .i64 j ∧ StRep S' x.C (((A.at st).step.set (.next i) 0).goneAll (cs.take j)) ∧ Has o w0 wr ((StP b { x with S := S' } (((A.at st).step.set (.next i) 0).goneAll (cs.take j))).sep (.nums (.slice np cs.length nc) cs)))
  case atStart => exact ⟨0, _, Nat.zero_le _, rfl, rfl, HR8.out, HX8.out⟩
  case round =>
    clear HX8 HR8
    obtain ⟨j, S', hj, hk, rfl, hrj, hXj⟩ := hrel
    have HKJ := Lib.hid hk
    by_cases hjl : j < cs.length
    · have e1 : decide ((j : Int) < (cs.length : Int)) = true := by simp; omega
      have e1' : decide (j < cs.length) = true := by simp; omega
      obtain ⟨o3, h3, _⟩ := hXj.right
      obtain ⟨_, _, he, _, _, hc⟩ := nums_open h3
      obtain ⟨gn, hgn, hc⟩ := hc (by omega)
      have c2 := hc j hjl
      have hpg : np = some ⟨gn, 0, none⟩ := by simp only [Value.slice.injEq] at he; rw [he.1, hgn]
      obtain ⟨m1, m2, m3⟩ := HMEM.out.1 cs[j] (List.getElem_mem hjl)
      have hnot : cs[j] ∉ cs.take j := fun hm => by
        obtain ⟨d, hd, e⟩ := List.mem_iff_getElem.1 hm
        rw [List.length_take] at hd
        rw [List.getElem_take] at e
        have := List.pairwise_iff_getElem.1 HMEM.out.2 d j (by omega) hjl (by omega)
        omega
      have hsn : cs.take (j + 1) = cs.take j ++ [cs[j]] := by rw [List.take_add_one, List.getElem?_eq_getElem hjl]; rfl
      have hall : ∀ v ∈ cs.take j, 1 ≤ v := fun v hv => (HMEM.out.1 v (List.mem_of_mem_take hv)).1
      have hvj : (((A.at st).step.set (.next i) 0).goneAll (cs.take j)).ver (cs[j] - 1) = true := by
        rw [goneAll_ver _ _ _ hall, ASt.ver_set]
        have e3 : cs[j] - 1 + 1 = cs[j] := by omega
        rw [e3]
        have m4 : (A.at st).step.ver (cs[j] - 1) = true := m3
        rw [m4]
        simpa using hnot
      obtain ⟨i2, hi2⟩ : ∃ i2, cs[j] = i2 + 1 := ⟨cs[j] - 1, by omega⟩
      rw [hi2] at c2 hsn hvj
      simp only [Nat.add_sub_cancel] at hvj
      have HSN := Lib.hid hsn
      obtain ⟨o4, h4, _⟩ := hXj.left
      have hvv4 : x.vv = .slice (some ⟨g, 0, none⟩) (((A.at st).step.set (.next i) 0).goneAll (cs.take j)).nV cap := by rw [HA1.out]; exact HVV.out
      have HVJ := Lib.hid (version_at h4 i2 hvj hvv4)
      have HAW := Lib.hid (away2 hXj hrj i2 hvj hvv4)
      have hcast : ((i2 + 1 : Nat) : Int) = (i2 : Int) + 1 := by simp
      rw [hcast] at c2
      clear hk hrj hXj h3 h4 hc he hgn hnot hsn hall hvj hi2 hvv4 hcast m1 m2 m3
      subst hpg
      go_wp2_with fail
      refine HVJ.out.mono ?_
      rintro e w9 ⟨rfl, rfl⟩
      go_wp2_with fail
      refine HAW.out.mono ?_
      rintro e w10 ⟨rfl, S2, hr10, hX10⟩
      have HR10 := Lib.hid hr10
      have HX10 := Lib.hid hX10
      clear hr10 hX10
      go_wp2_with fail
      go_roundg (cs.length - (j + 1))
      case measure => rw [HKJ.out]; omega
      case rel => exact ⟨j + 1, S2, by omega, rfl, by go_num, by rw [HSN.out, goneAll_snoc]; exact HR10.out, by rw [HSN.out, goneAll_snoc]; exact HX10.out⟩
    · have e1 : decide ((j : Int) < (cs.length : Int)) = false := by simp; omega
      have e1' : decide (j < cs.length) = false := by simp; omega
      obtain rfl : j = cs.length := by omega
      rw [List.take_length] at hrj hXj
      have HRJ := Lib.hid hrj
      have HXJ := Lib.hid hXj
      clear hk hrj hXj
      go_wp2_with fail
      go_ret2
      rw [HCS.out]
      exact ⟨rfl, wrap64 (st + 1), Has.stShut (x := { x with S := S' }) HRJ.out HXJ.out.fst⟩
end Go.Proofs.YtbodobdllchmgaaDoor
namespace Go.Proofs.YtbodobdllchmgaaDoor
open Go Go.RowKit
set_option linter.unusedVariables false

variable {o : List Nat} {w0 w : World} {b : Nat} {x : StIx} {A : ASt}

set_option maxHeartbeats 8000000 in
set_option maxRecDepth 100000 in
theorem drop_at (h : Has o w0 w (.store b A)) (i j : Nat) (nx : Int) (hh : A.at_ (.head i) = some ((j : Int) + 1)) (hl : A.at_ (.next j) = some nx) (hV : A.nV ≤ 1000000000) :
    Calls Tryd.prog 86 #[.pointer (some ⟨b, 0, none⟩), .int .i64 ((i : Int) + 1)] w fun e w' => e = .returned (.int .i64 0) ∧ ∃ st, Has o w0 w' (.store b (((A.at st).set (.head i) nx).goneV j)) := by
  obtain ⟨x, hr, h⟩ := h.stOpen
  have hver := at_next hl
  have hlt := ver_lt hver
  have hin := at_head hh
  obtain ⟨g, cap, hvv⟩ := StP.verSlice h hlt
  obtain ⟨gn, capn, hnv⟩ := StP.nodeSlice h hin
  obtain ⟨c0, _, _, _⟩ := StP.fields h
  obtain ⟨c1, _⟩ := StP.nodeCells h hin hnv
  have hw9 := hr.word _ nx hl
  have hle := hr.nextLe j nx hl
  have HN := Lib.hid (node_at h i hin hnv)
  have HL := Lib.hid (fun (w' : World) (hw : Has o w0 w' (StP b x A)) => stp_load hw hr (.head i) _ hh)
  have HX := Lib.hid h
  have HR := Lib.hid hr
  have HVV := Lib.hid hvv
  have HNV := Lib.hid hnv
  have HL0 := Lib.hid hl
  have HH0 := Lib.hid hh
  have HVR := Lib.hid hver
  have e9 : IntKind.i64.wrap ((j : Int) + 1) = (j : Int) + 1 := by unfold IntKind.wrap; simp [IntKind.bits, IntKind.signed]; omega
  clear h hr hl hh hvv hnv hver
  go_enter Tryd.func86, Tryd.ntmps86
  go_wp2_with fail
  refine HN.out.mono ?_
  rintro e w' ⟨rfl, rfl⟩
  go_wp2_with fail
  go_region_held3 (fun w' => w'.cell? ⟨b, 0, none⟩ = some (.pointer (some ⟨x.ab, 0, none⟩)) ∧ w'.cell? ⟨gn, i * 2, none⟩ = some (.int .i64 ((x.C.n i).1)))
    (first | exact ⟨c0, c1⟩ | exact ⟨d0, d1⟩)
    (first | (go_at_call 51
              refine (HL.out _ (HX.out.quiet ((Kept.refl _ _).drew))).mono ?_
              rintro e w4 ⟨rfl, hX4⟩
              obtain ⟨d0, _, _, _⟩ := StP.fields hX4
              obtain ⟨d1, _⟩ := StP.nodeCells hX4 hin HNV.out
              have HX4 := Lib.hid hX4
              clear hX4))
  have HV := Lib.hid (version_at HX4.out j HVR.out HVV.out)
  obtain ⟨_, _, _, k1⟩ := StP.verCells HX4.out (A := A.step) hlt HVV.out
  have HL2 := Lib.hid (fun (w' : World) (hw : Has o w0 w' (StP b { x with S := x.S.step } A.step)) => stp_load hw HR.out.step (.next j) nx HL0.out)
  go_wp2_with fail
  refine HV.out.mono ?_
  rintro e w5 ⟨rfl, rfl⟩
  go_wp2_with fail
  go_region_held3 (fun w' => w'.cell? ⟨b, 0, none⟩ = some (.pointer (some ⟨x.ab, 0, none⟩)) ∧ w'.cell? ⟨g, j * 5 + 3, none⟩ = some (.int .i64 ((x.C.v j).2.2)))
    (first | exact ⟨d0, k1⟩ | exact ⟨p0, p1⟩)
    (first | (go_at_call 51
              refine (HL2.out _ (HX4.out.quiet ((Kept.refl _ _).drew))).mono ?_
              rintro e w6 ⟨rfl, hX6⟩
              obtain ⟨p0, _, _, _⟩ := StP.fields hX6
              obtain ⟨_, _, _, p1⟩ := StP.verCells hX6 (A := A.step.step) hlt HVV.out
              have HX6 := Lib.hid hX6
              clear hX6))
  obtain ⟨q1, _⟩ := StP.nodeCells HX6.out (A := A.step.step) hin HNV.out
  have HST := Lib.hid (fun (w' : World) (hw : Has o w0 w' (StP b { x with S := x.S.step.step } A.step.step)) => stp_store hw HR.out.step.step (.head i) ((j : Int) + 1) nx HH0.out)
  have HR8 := Lib.hid (HR.out.step.step.step.put (l := .head i) (u := (j : Int) + 1) (v := nx) HH0.out hw9 (fun _ _ => by show nx ≤ (A.nV : Int); omega) (fun _ e => by cases e))
  go_wp2_with fail
  go_region_held3 (fun w' => w'.cell? ⟨b, 0, none⟩ = some (.pointer (some ⟨x.ab, 0, none⟩)) ∧ w'.cell? ⟨gn, i * 2, none⟩ = some (.int .i64 ((x.C.n i).1)))
    (first | exact ⟨p0, q1⟩ | exact ⟨r0, r1⟩)
    (first | (go_at_call 61
              refine (HST.out _ (HX6.out.quiet ((Kept.refl _ _).drew))).mono ?_
              rintro e w8 ⟨rfl, hX8⟩
              obtain ⟨r0, _, _, _⟩ := StP.fields hX8
              obtain ⟨r1, _⟩ := StP.nodeCells hX8 (A := A.step.step.step.set (.head i) nx) hin HNV.out
              have HX8 := Lib.hid hX8
              clear hX8))
  have hvj : (A.step.step.step.set (.head i) nx).ver j = true := by rw [ASt.ver_set]; exact HVR.out
  have HAW := Lib.hid (away_walk HX8.out HR8.out j hvj HVV.out)
  clear hvj
  go_wp2_with fail
  refine HAW.out.mono ?_
  rintro e w10 ⟨rfl, S2, hr10, hX10⟩
  have HR10 := Lib.hid hr10
  have HX10 := Lib.hid hX10
  clear hr10 hX10
  go_wp2_with fail
  go_ret
  exact ⟨rfl, wrap64 (wrap64 (wrap64 (A.steps + 1) + 1) + 1), Has.stShut (x := { x with S := S2 }) HR10.out HX10.out⟩
end Go.Proofs.YtbodobdllchmgaaDoor
namespace Go.Proofs.YtbodobdllchmgaaDoor
open Go Go.RowKit
set_option linter.unusedVariables false

set_option maxHeartbeats 1000000 in
set_option maxRecDepth 100000 in
theorem rsplit_walk (W : World) (w : Int) (h0 : 0 ≤ w) (h1 : w < 18446744073709551616) :
    Calls Tryd.prog 80 #[.int .u64 w] W fun e W' => e = .returned (.tuple #[.int .i64 (wKind w), .int .i64 (wTime w), .int .i64 (wOwner w)]) ∧ W' = W := by
  go_enter Tryd.func80, Tryd.ntmps80
  by_cases c1 : w < 1099511627776
  · have d1 : decide (w < 1099511627776) = true := by simpa using c1
    have e1 : IntKind.i64.wrap w = w := by unfold IntKind.wrap; simp [IntKind.bits, IntKind.signed]; omega
    have k1 : wKind w = 1 := by unfold wKind; rw [if_pos c1]
    have k2 : wTime w = w := by unfold wTime; rw [if_pos (by omega)]
    have k3 : wOwner w = 0 := by unfold wOwner; rw [if_neg (by omega)]
    rw [k1, k2, k3]
    clear k1 k2 k3
    go_wp2_with fail
    go_ret3
    exact ⟨rfl, rfl⟩
  have d1 : decide (w < 1099511627776) = false := by simpa using c1
  by_cases c2 : w = 1099511627776
  · have k1 : wKind w = 2 := by unfold wKind; rw [if_neg c1, if_pos c2]
    have k2 : wTime w = 1099511627776 := by unfold wTime; rw [if_pos (by omega)]; exact c2
    have k3 : wOwner w = 0 := by unfold wOwner; rw [if_neg (by omega)]
    rw [k1, k2, k3]
    clear k1 k2 k3
    subst c2
    go_wp2_with fail
    go_ret3
    exact ⟨rfl, rfl⟩
  have d2 : decide (w = 1099511627776) = false := by simpa using c2
  have k2 : wTime w = 0 := by unfold wTime; rw [if_neg (by omega)]
  by_cases c3 : 9223372036854775808 < w ∧ w < 9223372036855824384
  · have d3 : decide (w > 9223372036854775808) = true := by simp; omega
    have d4 : decide (w - 9223372036854775808 < 1048576) = true := by simp; omega
    have e1 : IntKind.u64.wrap (w - 9223372036854775808) = w - 9223372036854775808 := by unfold IntKind.wrap; simp [IntKind.bits, IntKind.signed]; omega
    have e2 : IntKind.i64.wrap (w - 9223372036854775808) = w - 9223372036854775808 := by unfold IntKind.wrap; simp [IntKind.bits, IntKind.signed]; omega
    have k1 : wKind w = 3 := by unfold wKind; rw [if_neg c1, if_neg c2, if_pos c3]
    have k3 : wOwner w = w - 9223372036854775808 := by unfold wOwner; rw [if_pos c3]
    rw [k1, k2, k3]
    clear k1 k2 k3
    go_wp2_with fail
    go_ret3
    exact ⟨rfl, rfl⟩
  · have k1 : wKind w = 0 := by unfold wKind; rw [if_neg c1, if_neg c2, if_neg c3]
    have k3 : wOwner w = 0 := by unfold wOwner; rw [if_neg c3]
    rw [k1, k2, k3]
    clear k1 k2 k3
    by_cases c4 : 9223372036854775808 < w
    · have d3 : decide (w > 9223372036854775808) = true := by simp; omega
      have d4 : decide (w - 9223372036854775808 < 1048576) = false := by simp; omega
      have e1 : IntKind.u64.wrap (w - 9223372036854775808) = w - 9223372036854775808 := by unfold IntKind.wrap; simp [IntKind.bits, IntKind.signed]; omega
      go_wp2_with fail
      go_ret3
      exact ⟨rfl, rfl⟩
    · have d3 : decide (w > 9223372036854775808) = false := by simp; omega
      go_wp2_with fail
      go_ret3
      exact ⟨rfl, rfl⟩

set_option maxHeartbeats 1000000 in
set_option maxRecDepth 100000 in
theorem rparts_walk (W : World) (w : Int) (h0 : 0 ≤ w) (h1 : w < 18446744073709551616) :
    Calls Tryd.prog 58 #[.int .u64 w] W fun e W' => e = .returned (.tuple #[.int .i64 (wTime w), .int .i64 (wOwner w), .bool (wOk w)]) ∧ W' = W := by
  have hs := Lib.hid (rsplit_walk W w h0 h1)
  have hk := Lib.hid (wKind_ok w)
  go_enter Tryd.func58, Tryd.ntmps58
  go_wp2_with fail
  refine hs.out.mono ?_
  rintro e W' ⟨rfl, rfl⟩
  go_wp2_with fail
  go_ret3
  exact ⟨by rw [← hk.out]; simp; rfl, rfl⟩

set_option maxHeartbeats 1000000 in
set_option maxRecDepth 100000 in
theorem rbegins_walk (W : World) (w : Int) (h0 : 0 ≤ w) (h1 : w < 18446744073709551616) :
    Calls Tryd.prog 59 #[.int .u64 w] W fun e W' => e = .returned (.bool (wBegins w)) ∧ W' = W := by
  have hs := rparts_walk W w h0 h1
  unfold wBegins
  generalize wOk w = ok at *
  have hs := Lib.hid hs
  go_enter Tryd.func59, Tryd.ntmps59
  go_wp2_with fail
  refine hs.out.mono ?_
  rintro e W' ⟨rfl, rfl⟩
  cases ok
  · go_wp2_with fail
    go_ret
    exact ⟨rfl, rfl⟩
  · by_cases hw : w = 1099511627776
    · subst hw
      go_wp2_with fail
      go_ret
      exact ⟨rfl, rfl⟩
    · have e1 : decide (w = 1099511627776) = false := by simpa using hw
      have e2 : (w == 1099511627776) = false := by simpa using hw
      go_wp2_with fail
      go_ret
      exact ⟨by simp [hw], rfl⟩


/-- May a word be a state? -/
def uS (w : Int) : Int := w / 4611686018427387904
def uT (w : Int) : Int := w % 4611686018427387904
def uOk (w : Int) : Bool := decide (uT w < 1099511627776) && (decide (uS w = 1) || decide (uS w = 2) || decide (uT w = 0))

def sOk (s t : Int) : Bool := decide (t < 1099511627776) && (decide (s = 1) || decide (s = 2) || decide (t = 0))
theorem uOk_s (w : Int) : uOk w = sOk (uS w) (uT w) := rfl

theorem and62 (n : Nat) : n &&& 4611686018427387903 = n % 4611686018427387904 :=
  Nat.and_two_pow_sub_one_eq_mod n 62

theorem and_mod62 (w : Int) (h0 : 0 ≤ w) (h1 : w < 18446744073709551616) : Go.bits .and .u64 w 4611686018427387903 = w % 4611686018427387904 := by
  have h := bits_and_u64_nat w.toNat 4611686018427387903 (by omega) (by omega)
  rw [and62] at h
  have e2 : ((w.toNat : Nat) : Int) = w := by omega
  rw [e2] at h
  have e3 : ((w.toNat % 4611686018427387904 : Nat) : Int) = w % 4611686018427387904 := by omega
  exact h.trans e3

set_option maxHeartbeats 1000000 in
set_option maxRecDepth 100000 in
theorem istime_walk (W : World) (t : Int) :
    Calls Tryd.prog 65 #[.int .i64 t] W fun e W' => e = .returned (.bool (decide (0 ≤ t) && decide (t < 1099511627776))) ∧ W' = W := by
  go_enter Tryd.func65, Tryd.ntmps65
  by_cases c1 : 0 ≤ t
  · have d1 : decide (t ≥ 0) = true := by simpa using c1
    have d2 : decide (0 ≤ t) = true := by simpa using c1
    rw [d2]
    go_wp2_with fail
    go_ret
    exact ⟨rfl, rfl⟩
  · have d1 : decide (t ≥ 0) = false := by simpa using c1
    have d2 : decide (0 ≤ t) = false := by simpa using c1
    rw [d2]
    go_wp2_with fail
    go_ret
    exact ⟨rfl, rfl⟩

set_option maxHeartbeats 1000000 in
set_option maxRecDepth 100000 in
theorem statew_walk (W : World) (s t : Int) (h0 : 0 ≤ s) (h1 : s ≤ 3) (h2 : 0 ≤ t) (h3 : t < 4611686018427387904) :
    Calls Tryd.prog 81 #[.int .i64 s, .int .i64 t] W fun e W' => ∃ x, e = .returned (.tuple #[.int .u64 x, .int .i64 (if sOk s t = true then 0 else 50)]) ∧ W' = W := by
  have HT := Lib.hid (istime_walk W t)
  have b0 : decide (0 ≤ t) = true := by simpa using h2
  rw [b0] at HT
  go_enter Tryd.func81, Tryd.ntmps81
  have a0 : decide (t ≥ 0) = true := by simpa using h2
  have a1 : decide (t < 0) = false := by simpa using h2
  by_cases c1 : t < 1099511627776
  · have d1 : decide (t < 1099511627776) = true := by simpa using c1
    rw [d1] at HT
    have d2 : decide (t ≥ 1099511627776) = false := by simpa using c1
    have e1 : IntKind.u64.wrap t = t := by unfold IntKind.wrap; simp [IntKind.bits, IntKind.signed]; omega
    by_cases c2 : t = 0
    · subst c2
      rcases (by omega : s = 0 ∨ s = 1 ∨ s = 2 ∨ s = 3) with rfl | rfl | rfl | rfl
      all_goals (
        first | rw [show sOk 0 0 = true from rfl] | rw [show sOk 1 0 = true from rfl] | rw [show sOk 2 0 = true from rfl] | rw [show sOk 3 0 = true from rfl]
        go_wp2_with fail
        first
          | (refine HT.out.mono ?_
             rintro e W' ⟨rfl, rfl⟩
             go_wp2_with fail
             go_ret2
             exact ⟨⟨_, rfl⟩, rfl⟩)
          | (go_ret2
             exact ⟨⟨_, rfl⟩, rfl⟩))
    · have f1 : decide (t = 0) = false := by simpa using c2
      have f2 : (t == 0) = false := by simpa using c2
      have f3 : (t != 0) = true := by simpa using c2
      rcases (by omega : s = 0 ∨ s = 1 ∨ s = 2 ∨ s = 3) with rfl | rfl | rfl | rfl
      all_goals (
        first | rw [show sOk 0 t = false by simp [sOk, c2]] | rw [show sOk 1 t = true by simp [sOk, c1]] | rw [show sOk 2 t = true by simp [sOk, c1]] | rw [show sOk 3 t = false by simp [sOk, c2]]
        go_wp2_with fail
        first
          | (refine HT.out.mono ?_
             rintro e W' ⟨rfl, rfl⟩
             go_wp2_with fail
             go_ret2
             exact ⟨⟨_, rfl⟩, rfl⟩)
          | (go_ret2
             exact ⟨⟨_, rfl⟩, rfl⟩))
  · have d1 : decide (t < 1099511627776) = false := by simpa using c1
    rw [d1] at HT
    have d2 : decide (t ≥ 1099511627776) = true := by simpa using c1
    have f1 : decide (t = 0) = false := by simp; omega
    have f2 : (t == 0) = false := by simp; omega
    have f3 : (t != 0) = true := by simp; omega
    rw [show sOk s t = false by unfold sOk; rw [d1]; rfl]
    rcases (by omega : s = 0 ∨ s = 1 ∨ s = 2 ∨ s = 3) with rfl | rfl | rfl | rfl
    all_goals (
      go_wp2_with fail
      first
        | (refine HT.out.mono ?_
           rintro e W' ⟨rfl, rfl⟩
           go_wp2_with fail
           go_ret2
           exact ⟨⟨_, rfl⟩, rfl⟩)
        | (go_ret2
           exact ⟨⟨_, rfl⟩, rfl⟩))

set_option maxHeartbeats 1000000 in
set_option maxRecDepth 100000 in
theorem unstate_walk (W : World) (w : Int) (h0 : 0 ≤ w) (h1 : w < 18446744073709551616) :
    Calls Tryd.prog 66 #[.int .u64 w] W fun e W' => ∃ a b, e = .returned (.tuple #[.int .i64 a, .int .i64 b, .bool (uOk w)]) ∧ W' = W := by
  have hs := statew_walk W (w / 4611686018427387904) (w % 4611686018427387904) (by omega) (by omega) (by omega) (by omega)
  rw [uOk_s]
  unfold uS uT
  have hand := and_mod62 w h0 h1
  have hw9 : wrap64 (w % 4611686018427387904) = w % 4611686018427387904 := by unfold wrap64; omega
  generalize sOk (w / 4611686018427387904) (w % 4611686018427387904) = ok at hs ⊢
  have HS := Lib.hid hs
  clear hs
  go_enter Tryd.func66, Tryd.ntmps66
  go_wp2_with fail
  refine HS.out.mono ?_
  rintro e W' ⟨x, rfl, rfl⟩
  cases ok
  · go_wp2_with fail
    go_ret3
    exact ⟨_, _, rfl, rfl⟩
  · go_wp2_with fail
    go_ret3
    exact ⟨_, _, rfl, rfl⟩

end Go.Proofs.YtbodobdllchmgaaDoor
namespace Go.Proofs.YtbodobdllchmgaaDoor
open Go Go.RowKit
set_option linter.unusedVariables false

variable {o : List Nat} {w0 w : World} {b : Nat} {x : RfIx} {A : ASt} {fr rs : Int}

theorem free_set (A : ASt) (l : Loc) (v : Int) : (A.set l v).free = A.free := by unfold ASt.free; rw [A.size_set, A.used_set]
theorem Has.rfShutAs {A : ASt} (h : Has o w0 w (RfP b x A fr rs)) (e : fr = A.free) : Has o w0 w (.rstore b A rs) := by subst e; exact h.rfShut

theorem in_head {A : ASt} {i : Nat} {v : Int} (hl : A.at_ (.head i) = some v) : (A.N i).1 = v := by
  have h : (if i < A.nN then some (A.N i).1 else none) = some v := hl
  rw [if_pos (at_head hl)] at h; exact Option.some.inj h
theorem in_lock {A : ASt} {i : Nat} {v : Int} (hl : A.at_ (.lock i) = some v) : (A.N i).2 = v := by
  have h : (if i < A.nN then some (A.N i).2 else none) = some v := hl
  rw [if_pos (at_lock hl)] at h; exact Option.some.inj h
theorem in_begin {A : ASt} {i : Nat} {v : Int} (hl : A.at_ (.begin_ i) = some v) : (A.V i).begin_ = v := by
  have h : (if A.ver i = true then some (A.V i).begin_ else none) = some v := hl
  rw [if_pos (at_begin hl)] at h; exact Option.some.inj h
theorem in_end {A : ASt} {i : Nat} {v : Int} (hl : A.at_ (.end_ i) = some v) : (A.V i).end_ = v := by
  have h : (if A.ver i = true then some (A.V i).end_ else none) = some v := hl
  rw [if_pos (at_end hl)] at h; exact Option.some.inj h
theorem in_next {A : ASt} {i : Nat} {v : Int} (hl : A.at_ (.next i) = some v) : (A.V i).next = v := by
  have h : (if A.ver i = true then some (A.V i).next else none) = some v := hl
  rw [if_pos (at_next hl)] at h; exact Option.some.inj h
theorem in_state {A : ASt} {i : Nat} {v : Int} (hl : A.at_ (.state i) = some v) : (A.T i).1 = v := by
  have h : (if A.txn i = true then some (A.T i).1 else none) = some v := hl
  rw [if_pos (at_state hl)] at h; exact Option.some.inj h

theorem is_node {A : ASt} {i : Nat} (h : i < A.nN) : A.isN ((i : Int) + 1) = true := by unfold ASt.isN; simp; omega
theorem is_ver {A : ASt} {i : Nat} (h : A.ver i = true) : A.isV ((i : Int) + 1) = true := by unfold ASt.isV; rw [show ((i : Int) + 1 - 1).toNat = i by omega, h]; simp; omega
theorem is_txn {A : ASt} {i : Nat} (h : A.txn i = true) : A.isT ((i : Int) + 1) = true := by unfold ASt.isT; rw [show ((i : Int) + 1 - 1).toNat = i by omega, h]; simp; omega

theorem RfP.putHead (h : Has o w0 w (RfP b x A fr rs)) {i g cap : Nat} (hi : i < A.nN) (e : x.nv = .slice (some ⟨g, 0, none⟩) A.nN cap) (v : Int) : Has o w0 (w.setCell ⟨g, i * 2, none⟩ (.int .i64 v)) (RfP b x (A.set (.head i) v) fr rs) := by
  obtain ⟨g2, cap2, e2, _, _, _, _, p0, p1⟩ := RfP.node h hi
  rw [e] at e2
  obtain ⟨rfl, rfl⟩ : g = g2 ∧ cap = cap2 := by simpa using e2
  exact p0 v
theorem RfP.putLock (h : Has o w0 w (RfP b x A fr rs)) {i g cap : Nat} (hi : i < A.nN) (e : x.nv = .slice (some ⟨g, 0, none⟩) A.nN cap) (v : Int) : Has o w0 (w.setCell ⟨g, i * 2 + 1, none⟩ (.int .u64 v)) (RfP b x (A.set (.lock i) v) fr rs) := by
  obtain ⟨g2, cap2, e2, _, _, _, _, p0, p1⟩ := RfP.node h hi
  rw [e] at e2
  obtain ⟨rfl, rfl⟩ : g = g2 ∧ cap = cap2 := by simpa using e2
  exact p1 v
theorem RfP.putBegin (h : Has o w0 w (RfP b x A fr rs)) {i g cap : Nat} (hi : i < A.nV) (e : x.vv = .slice (some ⟨g, 0, none⟩) A.nV cap) (v : Int) : Has o w0 (w.setCell ⟨g, i * 5 + 1, none⟩ (.int .u64 v)) (RfP b x (A.set (.begin_ i) v) fr rs) := by
  obtain ⟨g2, cap2, e2, _, _, _, _, _, _, _, p0, p1, p2⟩ := RfP.ver h hi
  rw [e] at e2
  obtain ⟨rfl, rfl⟩ : g = g2 ∧ cap = cap2 := by simpa using e2
  exact p0 v
theorem RfP.putEnd (h : Has o w0 w (RfP b x A fr rs)) {i g cap : Nat} (hi : i < A.nV) (e : x.vv = .slice (some ⟨g, 0, none⟩) A.nV cap) (v : Int) : Has o w0 (w.setCell ⟨g, i * 5 + 2, none⟩ (.int .u64 v)) (RfP b x (A.set (.end_ i) v) fr rs) := by
  obtain ⟨g2, cap2, e2, _, _, _, _, _, _, _, p0, p1, p2⟩ := RfP.ver h hi
  rw [e] at e2
  obtain ⟨rfl, rfl⟩ : g = g2 ∧ cap = cap2 := by simpa using e2
  exact p1 v
theorem RfP.putNext (h : Has o w0 w (RfP b x A fr rs)) {i g cap : Nat} (hi : i < A.nV) (e : x.vv = .slice (some ⟨g, 0, none⟩) A.nV cap) (v : Int) : Has o w0 (w.setCell ⟨g, i * 5 + 3, none⟩ (.int .i64 v)) (RfP b x (A.set (.next i) v) fr rs) := by
  obtain ⟨g2, cap2, e2, _, _, _, _, _, _, _, p0, p1, p2⟩ := RfP.ver h hi
  rw [e] at e2
  obtain ⟨rfl, rfl⟩ : g = g2 ∧ cap = cap2 := by simpa using e2
  exact p2 v
theorem RfP.putState (h : Has o w0 w (RfP b x A fr rs)) {i g cap : Nat} (hi : i < A.nT) (e : x.tv = .slice (some ⟨g, 0, none⟩) A.nT cap) (v : Int) : Has o w0 (w.setCell ⟨g, i * 2, none⟩ (.int .u64 v)) (RfP b x (A.set (.state i) v) fr rs) := by
  obtain ⟨g2, cap2, e2, _, _, _, _, p0⟩ := RfP.txn h hi
  rw [e] at e2
  obtain ⟨rfl, rfl⟩ : g = g2 ∧ cap = cap2 := by simpa using e2
  exact p0 v
set_option maxHeartbeats 1000000 in
set_option maxRecDepth 100000 in
theorem rsetEnd_no (h : Has o w0 w (.rstore b A rs)) (n : Int) (q : Int) (hq0 : 0 ≤ q) (hq1 : q < 18446744073709551616) (hn : A.isV n = false) :
    Calls Tryd.prog 39 #[.pointer (some ⟨b, 0, none⟩), .int .i64 n, .int .u64 q] w fun e w' => e = .returned (.int .i64 110) ∧ w' = w := by
  obtain ⟨x, h⟩ := h.rfOpen
  have HN := Lib.hid (show Calls Tryd.prog 60 #[.pointer (some ⟨b, 0, none⟩), .int .i64 n] w fun e w' => e = .returned (.bool false) ∧ w' = w from by
    have h5 := rversion_walk h n
    rw [hn] at h5
    exact h5)
  have HP := Lib.hid (rparts_walk w q hq0 hq1)
  clear h hn
  go_enter Tryd.func39, Tryd.ntmps39
  go_wp2_with fail
  refine HN.out.mono ?_
  rintro e w' ⟨rfl, rfl⟩
  go_wp2_with fail
  refine HP.out.mono ?_
  rintro e w' ⟨rfl, rfl⟩
  go_wp2_with fail
  go_ret
  exact ⟨rfl, rfl⟩

set_option maxHeartbeats 1000000 in
set_option maxRecDepth 100000 in
theorem rsetEnd_bad (h : Has o w0 w (.rstore b A rs)) (n q : Int) (hn : A.isV n = true) (hq0 : 0 ≤ q) (hq1 : q < 18446744073709551616) (hq : wOk q = false) :
    Calls Tryd.prog 39 #[.pointer (some ⟨b, 0, none⟩), .int .i64 n, .int .u64 q] w fun e w' => e = .returned (.int .i64 50) ∧ w' = w := by
  obtain ⟨x, h⟩ := h.rfOpen
  have HN := Lib.hid (show Calls Tryd.prog 60 #[.pointer (some ⟨b, 0, none⟩), .int .i64 n] w fun e w' => e = .returned (.bool true) ∧ w' = w from by
    have h5 := rversion_walk h n
    rw [hn] at h5
    exact h5)
  have hp := rparts_walk w q hq0 hq1
  rw [hq] at hp
  have HP := Lib.hid hp
  clear h hn hp
  go_enter Tryd.func39, Tryd.ntmps39
  go_wp2_with fail
  refine HN.out.mono ?_
  rintro e w' ⟨rfl, rfl⟩
  go_wp2_with fail
  refine HP.out.mono ?_
  rintro e w' ⟨rfl, rfl⟩
  go_wp2_with fail
  go_ret
  exact ⟨rfl, rfl⟩

set_option maxHeartbeats 1000000 in
set_option maxRecDepth 100000 in
theorem rsetEnd_at (h : Has o w0 w (.rstore b A rs)) (i : Nat) (u q : Int) (hl : A.at_ (.end_ i) = some u) (hq0 : 0 ≤ q) (hq1 : q < 18446744073709551616) (hq : wOk q = true) :
    Calls Tryd.prog 39 #[.pointer (some ⟨b, 0, none⟩), .int .i64 ((i : Int) + 1), .int .u64 q] w fun e w' => e = .returned (.int .i64 0) ∧ Has o w0 w' (.rstore b (A.set (.end_ i) q) (wrap64 (rs + 1))) := by
  obtain ⟨x, h⟩ := h.rfOpen
  have hver := at_end hl
  have hlt := ver_lt hver
  have hok := is_ver hver
  have h9 : A.nV ≤ 9223372036854775807 := Nat.le_trans (RfP.small h).2.1 (by decide)
  obtain ⟨c0, c1, c2, c3, c4, zf⟩ := RfP.fields h
  have z4 := zf 4 (by omega)
  obtain ⟨g, cap, e, hgb, y0, y1, y2, y3, y4, yf, _⟩ := RfP.ver h hlt
  have z1 := yf (i * 5 + 2)
  have HS := Lib.hid ((RfP.putEnd (RfP.putSteps h (wrap64 (rs + 1))) hlt e q).rfShutAs (free_set _ _ _).symm)
  rw [e] at c1
  have HN := Lib.hid (show Calls Tryd.prog 60 #[.pointer (some ⟨b, 0, none⟩), .int .i64 ((i : Int) + 1)] w fun e w' => e = .returned (.bool true) ∧ w' = w from by
    have h5 := rversion_walk h ((i : Int) + 1)
    rw [hok] at h5
    exact h5)
  have hp := rparts_walk w q hq0 hq1
  rw [hq] at hp
  have HP := Lib.hid hp
  have hb : 0 ≤ (i : Int) ∧ (i : Int) < (A.nV : Int) := by omega
  clear h e hl hok zf yf hp
  go_enter Tryd.func39, Tryd.ntmps39
  go_wp2_with fail
  refine HN.out.mono ?_
  rintro e w' ⟨rfl, rfl⟩
  go_wp2_with fail
  refine HP.out.mono ?_
  rintro e w' ⟨rfl, rfl⟩
  go_wp2_with fail
  go_ret
  exact ⟨rfl, HS.out⟩

set_option maxHeartbeats 1000000 in
set_option maxRecDepth 100000 in
theorem rpush_no (h : Has o w0 w (.rstore b A rs)) (n p q : Int) (hn : A.isN n = false ∨ (p ≠ 0 ∧ A.isV p = false) ∨ A.isV q = false) :
    Calls Tryd.prog 40 #[.pointer (some ⟨b, 0, none⟩), .int .i64 n, .int .i64 p, .int .i64 q] w fun e w' => e = .returned (.tuple #[.bool false, .int .i64 110]) ∧ w' = w := by
  obtain ⟨x, h⟩ := h.rfOpen
  have HN := Lib.hid (rnode_walk h n)
  have HP := Lib.hid (rversion_walk h p)
  have HQ := Lib.hid (rversion_walk h q)
  clear h
  generalize A.isN n = bn at *
  generalize A.isV p = bp at *
  generalize A.isV q = bq at *
  go_enter Tryd.func40, Tryd.ntmps40
  go_wp2_with fail
  refine HN.out.mono ?_
  rintro e w' ⟨rfl, rfl⟩
  go_wp2_with fail
  refine HP.out.mono ?_
  rintro e w' ⟨rfl, rfl⟩
  go_wp2_with fail
  refine HQ.out.mono ?_
  rintro e w' ⟨rfl, rfl⟩
  by_cases hp0 : p = 0
  · subst hp0
    cases bn <;> cases bq <;> simp at hn
    all_goals (
      go_wp2_with fail
      go_ret2
      exact ⟨rfl, rfl⟩)
  · have f1 : decide (p = 0) = false := by simpa using hp0
    have f2 : (p == 0) = false := by simpa using hp0
    have f3 : (p != 0) = true := by simpa using hp0
    cases bn <;> cases bq <;> cases bp <;> simp [hp0] at hn
    all_goals (
      go_wp2_with fail
      go_ret2
      exact ⟨rfl, rfl⟩)

set_option maxHeartbeats 1000000 in
set_option maxRecDepth 100000 in
theorem rpush_yes (h : Has o w0 w (.rstore b A rs)) (i : Nat) (p q : Int) (hl : A.at_ (.head i) = some p) (hp : p = 0 ∨ A.isV p = true) (hq : A.isV q = true) :
    Calls Tryd.prog 40 #[.pointer (some ⟨b, 0, none⟩), .int .i64 ((i : Int) + 1), .int .i64 p, .int .i64 q] w fun e w' => e = .returned (.tuple #[.bool true, .int .i64 0]) ∧ Has o w0 w' (.rstore b (A.set (.head i) q) (wrap64 (rs + 1))) := by
  obtain ⟨x, h⟩ := h.rfOpen
  have hlt := at_head hl
  have hok := is_node hlt
  have h9 : A.nN ≤ 9223372036854775807 := Nat.le_trans (RfP.small h).1 (by decide)
  obtain ⟨c0, c1, c2, c3, c4, zf⟩ := RfP.fields h
  have z4 := zf 4 (by omega)
  obtain ⟨g, cap, e, hgb, y0, y1, yf, _, _⟩ := RfP.node h hlt
  rw [in_head hl] at y0
  have z1 := yf (i * 2)
  have HS := Lib.hid ((RfP.putHead (RfP.putSteps h (wrap64 (rs + 1))) hlt e q).rfShutAs (free_set _ _ _).symm)
  rw [e] at c0
  have HN := Lib.hid (show Calls Tryd.prog 41 #[.pointer (some ⟨b, 0, none⟩), .int .i64 ((i : Int) + 1)] w fun e w' => e = .returned (.bool true) ∧ w' = w from by
    have h5 := rnode_walk h ((i : Int) + 1)
    rw [hok] at h5
    exact h5)
  have HP := Lib.hid (rversion_walk h p)
  have hQ := rversion_walk h q
  rw [hq] at hQ
  have HQ := Lib.hid hQ
  have hb : 0 ≤ (i : Int) ∧ (i : Int) < (A.nN : Int) := by omega
  clear h e hl hok zf yf hQ hq
  generalize A.isV p = bp at *
  go_enter Tryd.func40, Tryd.ntmps40
  go_wp2_with fail
  refine HN.out.mono ?_
  rintro e w' ⟨rfl, rfl⟩
  go_wp2_with fail
  refine HP.out.mono ?_
  rintro e w' ⟨rfl, rfl⟩
  go_wp2_with fail
  refine HQ.out.mono ?_
  rintro e w' ⟨rfl, rfl⟩
  by_cases hp0 : p = 0
  · subst hp0
    go_wp2_with fail
    go_ret2
    exact ⟨rfl, HS.out⟩
  · have g1 : decide (p = 0) = false := by simpa using hp0
    have g2 : (p == 0) = false := by simpa using hp0
    have g3 : (p != 0) = true := by simpa using hp0
    obtain rfl := hp.resolve_left hp0
    go_wp2_with fail
    go_ret2
    exact ⟨rfl, HS.out⟩

set_option maxHeartbeats 1000000 in
set_option maxRecDepth 100000 in
theorem rpush_not (h : Has o w0 w (.rstore b A rs)) (i : Nat) (u p q : Int) (hl : A.at_ (.head i) = some u) (hne : u ≠ p) (hp : p = 0 ∨ A.isV p = true) (hq : A.isV q = true) :
    Calls Tryd.prog 40 #[.pointer (some ⟨b, 0, none⟩), .int .i64 ((i : Int) + 1), .int .i64 p, .int .i64 q] w fun e w' => e = .returned (.tuple #[.bool false, .int .i64 0]) ∧ Has o w0 w' (.rstore b A (wrap64 (rs + 1))) := by
  obtain ⟨x, h⟩ := h.rfOpen
  have hlt := at_head hl
  have hok := is_node hlt
  have h9 : A.nN ≤ 9223372036854775807 := Nat.le_trans (RfP.small h).1 (by decide)
  obtain ⟨c0, c1, c2, c3, c4, zf⟩ := RfP.fields h
  have z4 := zf 4 (by omega)
  obtain ⟨g, cap, e, hgb, y0, y1, yf, _, _⟩ := RfP.node h hlt
  rw [in_head hl] at y0
  have z1 := yf (i * 2)
  have HS := Lib.hid ((RfP.putSteps h (wrap64 (rs + 1))).rfShut)
  rw [e] at c0
  have HN := Lib.hid (show Calls Tryd.prog 41 #[.pointer (some ⟨b, 0, none⟩), .int .i64 ((i : Int) + 1)] w fun e w' => e = .returned (.bool true) ∧ w' = w from by
    have h5 := rnode_walk h ((i : Int) + 1)
    rw [hok] at h5
    exact h5)
  have HP := Lib.hid (rversion_walk h p)
  have hQ := rversion_walk h q
  rw [hq] at hQ
  have HQ := Lib.hid hQ
  have hb : 0 ≤ (i : Int) ∧ (i : Int) < (A.nN : Int) := by omega
  have f1 : decide (u = p) = false := by simpa using hne
  have f2 : (u == p) = false := by simpa using hne
  have f3 : (u != p) = true := by simpa using hne
  clear h e hl hok zf yf hQ hq
  generalize A.isV p = bp at *
  go_enter Tryd.func40, Tryd.ntmps40
  go_wp2_with fail
  refine HN.out.mono ?_
  rintro e w' ⟨rfl, rfl⟩
  go_wp2_with fail
  refine HP.out.mono ?_
  rintro e w' ⟨rfl, rfl⟩
  go_wp2_with fail
  refine HQ.out.mono ?_
  rintro e w' ⟨rfl, rfl⟩
  by_cases hp0 : p = 0
  · subst hp0
    go_wp2_with fail
    go_ret2
    exact ⟨rfl, HS.out⟩
  · have g1 : decide (p = 0) = false := by simpa using hp0
    have g2 : (p == 0) = false := by simpa using hp0
    have g3 : (p != 0) = true := by simpa using hp0
    obtain rfl := hp.resolve_left hp0
    go_wp2_with fail
    go_ret2
    exact ⟨rfl, HS.out⟩

end Go.Proofs.YtbodobdllchmgaaDoor
namespace Go.Proofs.YtbodobdllchmgaaDoor
open Go Go.RowKit
set_option linter.unusedVariables false

variable {o : List Nat} {w0 w : World} {b : Nat} {A : ASt}

/-- One more version. -/
def ASt.addVer (A : ASt) (st : Int) (val : ByteArray) (bg nx : Int) : ASt := { A with steps := st, nV := A.nV + 1, V := fun j => if j = A.nV then ⟨val, bg, 1099511627776, nx, false⟩ else A.V j }
def Cells.addVer (C : Cells) (n c1 c2 c3 : Nat) : Cells := { C with v := fun j => if j = n then (c1, c2, c3) else C.v j }
def verW (bg nx : Int) (i : Nat) : Int := if i = 0 then bg else if i = 1 then 1099511627776 else nx

theorem StRep.addVer {S S' : Ar} {C : Cells} {A : ASt} {c1 c2 c3 : Nat} {val : ByteArray} {bg nx : Int} (h : StRep S C A) (ht : Took S [c1, c2, c3]) (hl : Laid S S' [c1, c2, c3] (verW bg nx))
    (hb : 0 ≤ bg ∧ bg < 18446744073709551616) (hn : 0 ≤ nx ∧ nx ≤ A.nV ∧ nx < 18446744073709551616) : StRep S' (C.addVer A.nV c1 c2 c3) (A.addVer S'.steps val bg nx) := by
  have hver : ∀ i, i ≠ A.nV → (A.addVer S'.steps val bg nx).ver i = A.ver i := fun i hi => by
    unfold ASt.ver ASt.addVer
    simp only [if_neg hi]
    by_cases h1 : i < A.nV
    · have : i < A.nV + 1 := by omega
      simp [h1, this]
    · have : ¬ i < A.nV + 1 := by omega
      simp [h1, this]
  have hver2 : (A.addVer S'.steps val bg nx).ver A.nV = true := by unfold ASt.ver ASt.addVer; simp
  have hat : ∀ l v, (A.addVer S'.steps val bg nx).at_ l = some v → (A.at_ l = some v ∧ (C.addVer A.nV c1 c2 c3).of l = C.of l) ∨ ((l = .begin_ A.nV ∧ v = bg) ∨ (l = .end_ A.nV ∧ v = 1099511627776) ∨ (l = .next A.nV ∧ v = nx)) := by
    intro l v hv
    cases l with
    | head i => exact .inl ⟨hv, rfl⟩
    | lock i => exact .inl ⟨hv, rfl⟩
    | state i => exact .inl ⟨hv, rfl⟩
    | begin_ i =>
      by_cases e : i = A.nV
      · subst e; right; left
        simp only [ASt.at_, hver2, if_true] at hv
        simp [ASt.addVer] at hv
        exact ⟨rfl, hv.symm⟩
      · left
        simp only [ASt.at_, hver i e] at hv ⊢
        simp only [ASt.addVer, Cells.of, Cells.addVer, if_neg e] at hv ⊢
        exact ⟨hv, trivial⟩
    | end_ i =>
      by_cases e : i = A.nV
      · subst e; right; right; left
        simp only [ASt.at_, hver2, if_true] at hv
        simp [ASt.addVer] at hv
        exact ⟨rfl, hv.symm⟩
      · left
        simp only [ASt.at_, hver i e] at hv ⊢
        simp only [ASt.addVer, Cells.of, Cells.addVer, if_neg e] at hv ⊢
        exact ⟨hv, trivial⟩
    | next i =>
      by_cases e : i = A.nV
      · subst e; right; right; right
        simp only [ASt.at_, hver2, if_true] at hv
        simp [ASt.addVer] at hv
        exact ⟨rfl, hv.symm⟩
      · left
        simp only [ASt.at_, hver i e] at hv ⊢
        simp only [ASt.addVer, Cells.of, Cells.addVer, if_neg e] at hv ⊢
        exact ⟨hv, trivial⟩
  refine h.ext ht hl (fun l i => (l = .begin_ A.nV ∧ i = 0) ∨ (l = .end_ A.nV ∧ i = 1) ∨ (l = .next A.nV ∧ i = 2)) (fun l v hv => ?_) ?_ rfl rfl ?_ (fun i hi => ?_) (fun i v hv => ?_) (fun i v hv => ?_)
  · rcases hat l v hv with h1 | ⟨rfl, rfl⟩ | ⟨rfl, rfl⟩ | ⟨rfl, rfl⟩
    · exact .inl h1
    · exact .inr ⟨0, by simp, by simp [Cells.of, Cells.addVer], rfl, .inl ⟨rfl, rfl⟩⟩
    · exact .inr ⟨1, by simp, by simp [Cells.of, Cells.addVer], rfl, .inr (.inl ⟨rfl, rfl⟩)⟩
    · exact .inr ⟨2, by simp, by simp [Cells.of, Cells.addVer], rfl, .inr (.inr ⟨rfl, rfl⟩)⟩
  · rintro l l' i (⟨rfl, rfl⟩ | ⟨rfl, rfl⟩ | ⟨rfl, rfl⟩) (⟨rfl, h2⟩ | ⟨rfl, h2⟩ | ⟨rfl, h2⟩)
    all_goals first | rfl | omega
  · have e : cntB (fun i => !((A.addVer S'.steps val bg nx).V i).gone) (A.nV + 1) = cntB (fun i => !(A.V i).gone) A.nV + 1 := by
      have gen : ∀ m, m ≤ A.nV → cntB (fun i => !((A.addVer S'.steps val bg nx).V i).gone) m = cntB (fun i => !(A.V i).gone) m := by
        intro m
        induction m with
        | zero => intro _; rfl
        | succ m ih =>
          intro hm
          unfold cntB
          rw [ih (by omega)]
          simp only [ASt.addVer, if_neg (show ¬ m = A.nV by omega)]
      rw [cntB, gen A.nV (Nat.le_refl _)]
      simp [ASt.addVer]
    show 2 * A.nN + 3 * cntB (fun i => !((A.addVer S'.steps val bg nx).V i).gone) (A.nV + 1) + _ = A.used + 3
    rw [e]
    unfold ASt.used; simp only [ASt.addVer]; omega
  · unfold verW
    by_cases e1 : i = 0
    · rw [if_pos e1]; exact hb
    · rw [if_neg e1]
      by_cases e2 : i = 1
      · rw [if_pos e2]; omega
      · rw [if_neg e2]; exact ⟨hn.1, hn.2.2⟩
  · show v ≤ ((A.nV + 1 : Nat) : Int)
    rcases hat _ v hv with ⟨h1, _⟩ | ⟨h1, _⟩ | ⟨h1, _⟩ | ⟨h1, _⟩
    · have := h.headLe i v h1; omega
    all_goals cases h1
  · rcases hat _ v hv with ⟨h1, _⟩ | ⟨h1, _⟩ | ⟨h1, _⟩ | ⟨h1, rfl⟩
    · exact h.nextLe i v h1
    · cases h1
    · cases h1
    · cases h1; exact hn.2.1

theorem stp_moreVer {w5 : World} {x : StIx} {B : Part} {v' : Value} {c1 c2 c3 : Nat} {val : ByteArray} {bg nx : Int} (st : Int) (ob : Obj) (h : Has o w0 w ((StP b x A).sep B))
    (happ : Appended (w.alloc ob) w5 103 5 x.vv v' (A.nV + 1) (flatN A.nV (verF x.C A) ++ [.string val, .int .i64 (c1 : Nat), .int .i64 (c2 : Nat), .int .i64 (c3 : Nat), .bool false])) :
    (∃ o', Has o' w5 w5 B) ∧ w5.cell? ⟨b, 2, none⟩ = some x.vv ∧ w5.frozen? ⟨b, 2, none⟩ = false ∧ Has o w0 (w5.setCell ⟨b, 2, none⟩ v') ((StP b { x with vv := v', C := x.C.addVer A.nV c1 c2 c3 } (A.addVer st val bg nx)).sep B) := by
  obtain ⟨o1, h1, _, _, b1⟩ := h.left
  obtain ⟨o2, h2, _, _, b2⟩ := h1.right
  obtain ⟨o3, h3, _, _, b3⟩ := h2.right
  obtain ⟨o4, h4, _, _, b4⟩ := h3.left
  have h4 := Has.rowsMore ob h4 happ
  have h5 := b2 _ _ (b3 _ _ (b4 _ _ h4))
  obtain ⟨o6, h6, _, _, b6⟩ := h5.left
  obtain ⟨o7, h7, _, _, b7⟩ := h6.left
  obtain ⟨c, z, hput⟩ := h7.blkAt (i := 2) (by omega)
  obtain ⟨oo, hoo, _⟩ := (b1 _ _ h5).right
  refine ⟨⟨oo, hoo⟩, c, z, b1 _ _ ?_⟩
  have h8 := b6 _ _ (b7 _ _ (hput v'))
  have e1 : upd (stF x.ab x.nv x.vv x.tv) 2 v' = stF x.ab x.nv v' x.tv := funext fun i => by
    unfold upd stF
    by_cases e : i = 2
    · subst e; rfl
    · simp [e]
  have e2 : (fun d => if d = A.nV then [Value.string val, .int .i64 (c1 : Nat), .int .i64 (c2 : Nat), .int .i64 (c3 : Nat), .bool false] else verF x.C A d) = verF (x.C.addVer A.nV c1 c2 c3) (A.addVer st val bg nx) := funext fun d => by
    unfold verF Cells.addVer ASt.addVer
    by_cases e : d = A.nV <;> simp [e]
  rw [e1, e2] at h8
  exact h8

theorem info_ver : (Tryd.prog.info? 103).map (fun i => (i.zero, i.size, i.bytes)) = some (some (.agg #[.string default, .int .i64 0, .int .i64 0, .int .i64 0, .bool false]), 5, 48) := by kernel_rfl

theorem cells_five (w : World) (n : Nat) (s : ByteArray) (c1 c2 c3 : Int) (t : TypeId) (hn : n = w.heap.size) : ∀ j u, [Value.string s, .int .i64 c1, .int .i64 c2, .int .i64 c3, .bool false][j]? = some u → (w.alloc (.cells #[.string s, .int .i64 c1, .int .i64 c2, .int .i64 c3, .bool false] t)).cell? ((⟨n, 0, none⟩ : Addr).add j) = some u := by
  subst hn
  intro j u hu
  have h : j < 5 := by have := (List.getElem?_eq_some_iff.1 hu).1; simpa using this
  have hb := Blk.made w #[.string s, .int .i64 c1, .int .i64 c2, .int .i64 c3, .bool false] t (fun i => [Value.string s, .int .i64 c1, .int .i64 c2, .int .i64 c3, .bool false].getD i default) 5 rfl (fun i hi => match i, hi with | 0, _ => rfl | 1, _ => rfl | 2, _ => rfl | 3, _ => rfl | 4, _ => rfl)
  rw [addr0, hb.cell h, List.getD_eq_getElem?_getD, hu]
  rfl

set_option maxHeartbeats 16000000 in
set_option maxRecDepth 100000 in
theorem version_first {val : ByteArray} {bg : Int} (h : Has o w0 w (.store b A)) (hT : TabAt w0) (ho : 0 ∉ o) (hfree : A.used + 3 ≤ A.size) (hval : val.size ≤ 64) (hb0 : 0 ≤ bg) (hb1 : bg < 18446744073709551616) (hbg : wBegins bg = true) (hnV : A.nV ≤ 1000000000) :
    Calls Tryd.prog 26 #[.pointer (some ⟨b, 0, none⟩), .string val, .int .u64 bg, .int .i64 (0)] w fun e w' => e = .returned (.tuple #[.int .i64 ((A.nV : Int) + 1), .int .i64 0]) ∧ ∃ st, Has o w0 w' (.store b (A.addVer st val bg (0))) := by
  obtain ⟨x, hr, h⟩ := h.stOpen
  have h2 := h.beside (wordsMade (w := w) #[.int .u64 bg, .int .u64 1099511627776, .int .u64 (0)] (verW bg (0)) 3 rfl (fun i hi => match i, hi with | 0, _ => rfl | 1, _ => rfl | 2, _ => rfl))
  have HTK := Lib.hid (take_ok h2 hT ho (by omega) (by rw [hr.count, hr.size]; exact hfree))
  have HR := Lib.hid hr
  have HBW := begins_walk w bg hb0 hb1
  rw [hbg] at HBW
  have HBW := Lib.hid HBW
  have d1 : decide ((val.size : Int) > 64) = false := by simp; omega
  have d1' : decide (val.size > 64) = false := by simp; omega
  obtain ⟨i0, hi0, hz0, hz1, hz2⟩ := info_parts info_ver
  clear h h2 hr hT ho hfree hbg
  go_enter Tryd.func26, Tryd.ntmps26
  go_wp2_with fail
  refine HBW.out.mono ?_
  rintro e w' ⟨rfl, rfl⟩
  go_wp2_with fail
  refine HTK.out.mono ?_
  rintro e w2 ⟨uv, cs, S', rfl, hcl, htk, hld, hX⟩
  obtain ⟨c1, c2, c3, rfl⟩ : ∃ c1 c2 c3, cs = [c1, c2, c3] := by
    match cs, hcl with
    | [c1, c2, c3], _ => exact ⟨c1, c2, c3, rfl⟩
  have hX2 : Has o w0 w2 ((StP b { x with S := S' } A).sep (.nums uv [c1, c2, c3])) := hX.weaken (Part.Imp.sep (Part.Imp.refl _) (Part.Imp.snd _ _))
  have HRN := Lib.hid (HR.out.addVer (val := val) htk hld ⟨hb0, hb1⟩ ⟨by omega, by omega, by omega⟩)
  obtain ⟨o3, h3, _⟩ := hX2.right
  obtain ⟨np, nc, rfl, _, _, hc⟩ := nums_open h3
  obtain ⟨g, rfl, hc2⟩ := hc (by simp)
  have y1 : w2.cell? ⟨g, 0, none⟩ = some (.int .i64 (c1 : Nat)) := hc2 0 (by simp)
  have y2 : w2.cell? ⟨g, 1, none⟩ = some (.int .i64 (c2 : Nat)) := hc2 1 (by simp)
  have y3 : w2.cell? ⟨g, 2, none⟩ = some (.int .i64 (c3 : Nat)) := hc2 2 (by simp)
  simp only [List.length_cons, List.length_nil] at *
  obtain ⟨o4, h4, _⟩ := hX2.left
  obtain ⟨_, _, y0, _⟩ := StP.fields h4
  obtain ⟨o5, h5⟩ := StP.vers h4
  have HROW := Lib.hid h5.rowsOwn
  have HX := Lib.hid hX2
  clear hX hX2 h3 h4 h5 hc hc2 hcl htk hld HTK
  go_wp2_with fail
  have HROW2 := Lib.hid (show w2.drew.ownsRow 0 103 5 x.vv A.nV (flatN A.nV (verF x.C A)) from HROW.out)
  have HXD := Lib.hid (HX.out.quiet ((Kept.refl [] w2).drew))
  have y0a : (w2.alloc (.cells #[.string val, .int .i64 (c1 : Nat), .int .i64 (c2 : Nat), .int .i64 (c3 : Nat), .bool false] 103)).cell? ⟨b, 2, none⟩ = some x.vv := ((Kept.refl [] w2).alloc _).cell y0 (by simp)
  go_region_law
    (refine step_append_new rfl (.tmp 48) (.tmp 60) 91 rfl 103 i0 (.agg #[.string default, .int .i64 0, .int .i64 0, .int .i64 0, .bool false]) 5 48 Tryd.underlying91 hi0 hz0 hz1 hz2 rfl (by decide) x.vv A.nV (flatN A.nV (verF x.C A)) rfl (HROW2.out.alloc _) ⟨_, 0, none⟩ 1 1 [.string val, .int .i64 (c1 : Nat), .int .i64 (c2 : Nat), .int .i64 (c3 : Nat), .bool false] rfl rfl (cells_five _ _ _ _ _ _ _ (by simp)) (by simp [Value.oneCell']) (by simp only [maxLen]; omega) (by omega) ?_
     intro v' w5 happ
     obtain ⟨⟨o7, h7⟩, z3, zf, hP⟩ := stp_moreVer (bg := bg) (nx := 0) S'.steps _ HXD.out happ
     obtain ⟨_, _, he7, _, _, hc7⟩ := nums_open h7
     obtain ⟨g7, hg7, hc7⟩ := hc7 (by simp)
     obtain rfl : g = g7 := by simp only [Value.slice.injEq] at he7; rw [← he7.1] at hg7; simpa using hg7
     have z1 : w5.cell? ⟨g, 0, none⟩ = some (.int .i64 (c1 : Nat)) := hc7 0 (by simp)
     have z2 : w5.cell? ⟨g, 1, none⟩ = some (.int .i64 (c2 : Nat)) := hc7 1 (by simp)
     have z4 : w5.cell? ⟨g, 2, none⟩ = some (.int .i64 (c3 : Nat)) := hc7 2 (by simp)
     obtain ⟨gv, vcap, rfl⟩ : ∃ gv vcap, v' = .slice (some ⟨gv, 0, none⟩) (A.nV + 1) vcap := by
       rcases rowN_open happ.row with ⟨_, h0⟩ | ⟨gv, vc, e, _⟩
       · omega
       · exact ⟨gv, vc, e⟩
     have HP := Lib.hid hP
     clear happ h7 he7 hc7 hP)
  all_goals (
    go_wp2_with fail
    go_ret2
    exact ⟨rfl, S'.steps, Has.stShut (x := { x with vv := .slice (some ⟨gv, 0, none⟩) (A.nV + 1) vcap, S := S', C := x.C.addVer A.nV c1 c2 c3 }) HRN.out HP.out.fst⟩)
end Go.Proofs.YtbodobdllchmgaaDoor
