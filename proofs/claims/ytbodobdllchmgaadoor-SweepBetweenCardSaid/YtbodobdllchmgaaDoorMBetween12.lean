/- Chains that are laid into a store and into the reference's, side by side: the walk of the statements' own laid.
The walk of the statements' own laid: any chains, as they are read.
The walk of the statements' own ordered: a chain whose versions stand in order. -/
import Derived.Test.YtbodobdllchmgaaDoorMBetween11
import Derived.Test.YtbodobdllchmgaaDoorMBetween10
namespace Go.Proofs.YtbodobdllchmgaaDoor
open Go Go.RowKit
set_option linter.unusedVariables false

variable {o : List Nat} {w0 w : World} {b rb : Nat} {A A' : ASt} {rs : Int} {B : Part}

/-- A fresh reference beside a fresh store. -/
theorem two_fresh {ab n : Nat} (h : Has o w0 w (.store b (newSt ab n 0))) : Has o w0 (w.alloc (.cells #[.slice none 0 0, .slice none 0 0, .slice none 0 0, .int .i64 n, .int .i64 0] 73)) (.two b w.heap.size (newSt ab n 0) (newSt ab n 0) 0) := by
  have h1 := h.beside (Has.madeBlk #[.slice none 0 0, .slice none 0 0, .slice none 0 0, .int .i64 n, .int .i64 0] 73 (rfF (.slice none 0 0) (.slice none 0 0) (.slice none 0 0) n 0) 5 rfl (fun i hi => match i, hi with | 0, _ => rfl | 1, _ => rfl | 2, _ => rfl | 3, _ => rfl | 4, _ => rfl))
  have h2 := h1.beside ((Has.rowsNil _ 77 2 (rnF (newSt ab n 0))).beside ((Has.rowsNil _ 82 5 (rvF (newSt ab n 0))).beside (Has.rowsNil _ 146 2 (rtF (newSt ab n 0)))))
  have h3 := h2.assoc
  obtain ⟨o9, h9, _, _, b9⟩ := h3.right
  refine b9 _ _ ?_
  refine Has.rfShutAs (x := ⟨.slice none 0 0, .slice none 0 0, .slice none 0 0⟩) (fr := (n : Int)) h9 ?_
  unfold ASt.free
  rw [newSt_used]
  show (n : Int) = (n : Int) - 0
  omega

/-- Two calls, one behind the other, beside other things: the same answer, and a plain store that is named. -/
def Pair (o : List Nat) (w0 w : World) (b rb : Nat) (A A' : ASt) (rs : Int) (f g : FuncId) (fa ga : Array Value) (v : Value) (B : Part) : Prop :=
  Calls Tryd.prog f fa w (fun e w' => e = .returned v ∧ ∃ st, Has o w0 w' ((Part.two b rb (A'.at st) A rs).sep B)) ∧
    ∀ w1 st, Has o w0 w1 ((Part.two b rb (A'.at st) A rs).sep B) → Calls Tryd.prog g ga w1 (fun e w' => e = .returned v ∧ ∃ rs', Has o w0 w' ((Part.two b rb (A'.at st) (A'.at st) rs').sep B))

theorem pair_mk {f g : FuncId} {fa ga : Array Value} {v : Value} (A' : ASt) (h : Has o w0 w ((Part.two b rb A A rs).sep B))
    (c1 : ∀ o1, Has o1 w w (.store b A) → (∀ y ∈ o1, y ∈ o ∨ w0.heap.size ≤ y) → Calls Tryd.prog f fa w (fun e w' => e = .returned v ∧ ∃ st, Has o1 w w' (.store b (A'.at st))))
    (c2 : ∀ o2 w1, Has o2 w1 w1 (.rstore rb A rs) → Calls Tryd.prog g ga w1 (fun e w' => e = .returned v ∧ ∃ rs', Has o2 w1 w' (.rstore rb A' rs'))) : Pair o w0 w b rb A A' rs f g fa ga v B := by
  refine ⟨?_, fun w1 st h1 => ?_⟩
  · obtain ⟨o1, h1, p1, _, b1⟩ := h.left
    obtain ⟨o2, h2, p2, _, b2⟩ := Has.left (A := .store b A) (B := .rstore rb A rs) h1
    refine (c1 o2 h2 fun y hy => ?_).mono ?_
    · rcases p2 y hy with h5 | h5
      · exact p1 y h5
      · right; have := h.keeps.size; omega
    · rintro e w' ⟨rfl, st, h'⟩
      exact ⟨rfl, st, b1 _ _ (b2 _ _ h')⟩
  · obtain ⟨o1, h2, p1, _, b1⟩ := h1.left
    obtain ⟨o2, h3, p2, _, b2⟩ := Has.right (A := .store b (A'.at st)) (B := .rstore rb A rs) h2
    refine (c2 o2 w1 h3).mono ?_
    rintro e w' ⟨rfl, rs', h'⟩
    exact ⟨rfl, rs', b1 _ _ (b2 _ (.rstore rb (A'.at st) rs') h')⟩

theorem pair_ok (h : Has o w0 w ((Part.two b rb A A' rs).sep B)) : AOk A := by
  obtain ⟨_, h1, _⟩ := h.left
  exact two_ok h1
theorem pair_tab (hT : TabAt w0) (ho : 0 ∉ o) (h : Has o w0 w B) : TabAt w := hT.kept h.keeps ho

theorem pair_node (h : Has o w0 w ((Part.two b rb A A rs).sep B)) (hT : TabAt w0) (ho : 0 ∉ o) (hf : A.used + 2 ≤ A.size) (hN : A.nN ≤ 1000000000) :
    Pair o w0 w b rb A (A.addNode A.steps) rs 30 36 #[P0 b] #[P0 rb] (.tuple #[.int .i64 ((A.nN : Int) + 1), .int .i64 0]) B := by
  have hok := pair_ok h
  refine pair_mk _ h (fun o1 h1 p1 => (node_make h1 (pair_tab hT ho h) (tab_out hT ho p1) hf).mono ?_) (fun o2 w1 h2 => (rnode_make h2 (by unfold ASt.free; omega) hN hok.big A.steps).mono ?_)
  · rintro e w' ⟨rfl, st, h'⟩
    exact ⟨rfl, st, h'⟩
  · rintro e w' ⟨rfl, h'⟩
    exact ⟨rfl, _, h'⟩
theorem pair_version (h : Has o w0 w ((Part.two b rb A A rs).sep B)) (hT : TabAt w0) (ho : 0 ∉ o) (hf : A.used + 3 ≤ A.size) (hV : A.nV ≤ 1000000000) (val : ByteArray) (hval : val.size ≤ 64) (bg nx : Int) (hb0 : 0 ≤ bg) (hb1 : bg < 18446744073709551616) (hbg : wBegins bg = true) (hnx : nx = 0 ∨ A.isV nx = true) :
    Pair o w0 w b rb A (A.addVer A.steps val bg nx) rs 26 37 #[P0 b, .string val, .int .u64 bg, .int .i64 nx] #[P0 rb, .string val, .int .u64 bg, .int .i64 nx] (.tuple #[.int .i64 ((A.nV : Int) + 1), .int .i64 0]) B := by
  have hok := pair_ok h
  refine pair_mk _ h (fun o1 h1 p1 => (version_ok (nxOk_of hnx) h1 (pair_tab hT ho h) (tab_out hT ho p1) hf hval hb0 hb1 hbg hV).mono ?_) (fun o2 w1 h2 => (rversion_make h2 hb0 hb1 hval hbg hnx (by unfold ASt.free; omega) hV hok.big A.steps).mono ?_)
  · rintro e w' ⟨rfl, st, h'⟩
    exact ⟨rfl, st, h'⟩
  · rintro e w' ⟨rfl, h'⟩
    exact ⟨rfl, _, h'⟩
theorem pair_noword (h : Has o w0 w ((Part.two b rb A A rs).sep B)) (val : ByteArray) (hval : val.size ≤ 64) (bg nx : Int) (hb0 : 0 ≤ bg) (hb1 : bg < 18446744073709551616) (hbg : wBegins bg = false) :
    Pair o w0 w b rb A A rs 26 37 #[P0 b, .string val, .int .u64 bg, .int .i64 nx] #[P0 rb, .string val, .int .u64 bg, .int .i64 nx] (.tuple #[.int .i64 0, .int .i64 50]) B := by
  refine pair_mk _ h (fun o1 h1 p1 => (version_word w b val bg hval hb0 hb1 hbg nx).mono ?_) (fun o2 w1 h2 => (rversion_bad h2 val bg nx hb0 hb1 50 (.inr (.inl ⟨hval, hbg, rfl⟩))).mono ?_)
  · rintro e w' ⟨rfl, rfl⟩
    exact ⟨rfl, A.steps, h1⟩
  · rintro e w' ⟨rfl, rfl⟩
    exact ⟨rfl, _, h2⟩

/-- The end that a version gets. -/
def endW (q : Int) : Int := if wOk q = true then q else 1099511627776

theorem pair_end (h : Has o w0 w ((Part.two b rb A A rs).sep B)) (i : Nat) (hi : A.ver i = true) (hN : (A.V i).end_ = 1099511627776) (q : Int) (hq0 : 0 ≤ q) (hq1 : q < 18446744073709551616) :
    ∃ c : Int, Pair o w0 w b rb A (A.set (.end_ i) (endW q)) rs 38 39 #[P0 b, .int .i64 ((i : Int) + 1), .int .u64 q] #[P0 rb, .int .i64 ((i : Int) + 1), .int .u64 q] (.int .i64 c) B := by
  have hv := (some_ofV hi).2.1
  unfold endW
  cases hq : wOk q
  · have e : A.set (.end_ i) 1099511627776 = A := by
      show ({ A with V := fun j => if j = i then { A.V j with end_ := 1099511627776 } else A.V j } : ASt) = A
      have : (fun j => if j = i then { A.V j with end_ := 1099511627776 } else A.V j) = A.V := by
        funext j
        split
        · rename_i h; subst h; rw [← hN]
        · rfl
      rw [this]
    rw [if_neg (by simp), e]
    refine ⟨50, pair_mk _ h (fun o1 h1 p1 => (setEnd_bad h1 i _ q hv hq0 hq1 hq).mono ?_) (fun o2 w1 h2 => (rsetEnd_bad h2 _ q (is_ver hi) hq0 hq1 hq).mono ?_)⟩
    · rintro e w' ⟨rfl, rfl⟩
      exact ⟨rfl, A.steps, h1⟩
    · rintro e w' ⟨rfl, rfl⟩
      exact ⟨rfl, _, h2⟩
  · rw [if_pos rfl]
    refine ⟨0, pair_mk _ h (fun o1 h1 p1 => (setEnd_at h1 i _ q hv hq0 hq1 hq).mono ?_) (fun o2 w1 h2 => (rsetEnd_at h2 i _ q hv hq0 hq1 hq).mono ?_)⟩
    · rintro e w' ⟨rfl, h'⟩
      rw [at_set_step] at h'
      exact ⟨rfl, _, h'⟩
    · rintro e w' ⟨rfl, h'⟩
      exact ⟨rfl, _, h'⟩
theorem pair_push (h : Has o w0 w ((Part.two b rb A A rs).sep B)) (i j : Nat) (nx : Int) (hl : A.at_ (.head i) = some nx) (hnx : nx = 0 ∨ A.isV nx = true) (hj : A.ver j = true) (hV : A.nV ≤ 1000000000) :
    Pair o w0 w b rb A (A.set (.head i) ((j : Int) + 1)) rs 27 40 #[P0 b, .int .i64 ((i : Int) + 1), .int .i64 nx, .int .i64 ((j : Int) + 1)] #[P0 rb, .int .i64 ((i : Int) + 1), .int .i64 nx, .int .i64 ((j : Int) + 1)] (.tuple #[.bool true, .int .i64 0]) B := by
  refine pair_mk _ h (fun o1 h1 p1 => (push_ok h1 i j nx (nxOk_of hnx) hl hj hV).mono ?_) (fun o2 w1 h2 => (rpush_yes h2 i nx _ hl hnx (is_ver hj)).mono ?_)
  · rintro e w' ⟨rfl, h'⟩
    rw [at_set_step] at h'
    exact ⟨rfl, _, h'⟩
  · rintro e w' ⟨rfl, h'⟩
    exact ⟨rfl, _, h'⟩

/-- A version's words. -/
def pr (A : ASt) (v : Nat) : Int × Int := (bgn A v, enn A v)

/-- Chains that were laid: m nodes, what words their versions have. -/
structure LaidAt (A : ASt) (ch : Nat → List Nat) (m : Nat) (W : Nat → List (Int × Int)) : Prop where
  chs : Chs A ch
  nN : A.nN = m
  size : A.size = 4000
  nT : A.nT = 0
  low : ∀ j, m ≤ j → ch j = []
  words : ∀ j, (ch j).map (pr A) = W j

theorem cntB_le (p : Nat → Bool) (n : Nat) : cntB p n ≤ n := by
  induction n with
  | zero => exact Nat.le_refl _
  | succ n ih => unfold cntB; split <;> omega
theorem LaidAt.used {ch : Nat → List Nat} {m : Nat} {W : Nat → List (Int × Int)} (h : LaidAt A ch m W) : A.used ≤ 2 * m + 3 * A.nV := by
  unfold ASt.used
  rw [h.nN, h.nT]
  have := cntB_le (fun i => !(A.V i).gone) A.nV
  show 2 * m + 3 * _ + 0 ≤ _
  omega
theorem LaidAt.at {ch : Nat → List Nat} {m : Nat} {W : Nat → List (Int × Int)} (h : LaidAt A ch m W) (st : Int) : LaidAt (A.at st) ch m W :=
  ⟨h.chs.at st, h.nN, h.size, h.nT, h.low, h.words⟩
theorem LaidAt.low' {ch : Nat → List Nat} {i : Nat} {c : Nat → List (Int × Int)} (h : LaidAt A ch (i + 1) c) (hc : c i = []) : ch i = [] := by
  have := h.words i
  rw [hc] at this
  exact List.map_eq_nil_iff.1 this
theorem LaidAt.new (ab : Nat) : LaidAt (newSt ab 4000 0) (fun _ => []) 0 (fun _ => []) :=
  ⟨⟨fun i hi => by exact absurd hi (Nat.not_lt_zero i), fun i hi => trivial, fun i j hi => by exact absurd hi (Nat.not_lt_zero i), fun i hi => by
    have : (newSt ab 4000 0).ver i = false := by unfold ASt.ver newSt; simp
    rw [this] at hi; cases hi⟩, rfl, rfl, rfl, fun _ _ => rfl, fun _ => rfl⟩
theorem LaidAt.node {ch : Nat → List Nat} {m : Nat} {W : Nat → List (Int × Int)} (h : LaidAt A ch m W) (st : Int) : LaidAt (A.addNode st) ch (m + 1) W := by
  have hlow := h.low m (Nat.le_refl _)
  have keep : ∀ l, Linked A l → Linked (A.addNode st) l := fun l hl => hl.keep fun u _ => ⟨rfl, rfl⟩
  refine ⟨⟨fun i hi => ?_, fun i hi => ?_, fun i j hi hj hne => ?_, h.chs.down⟩, by show A.nN + 1 = m + 1; rw [h.nN], h.size, h.nT, fun j hj => h.low j (by omega), h.words⟩
  · show ((if i = A.nN then ((0 : Int), (0 : Int)) else A.N i)).1 = _
    by_cases e : i = A.nN
    · rw [if_pos e, e, h.nN, hlow]; rfl
    · rw [if_neg e]
      have : i < A.nN + 1 := hi
      exact h.chs.head i (by omega)
  · by_cases e : i = A.nN
    · rw [e, h.nN, hlow]; trivial
    · have : i < A.nN + 1 := hi
      exact keep _ (h.chs.link i (by omega))
  · have hi' : i < A.nN + 1 := hi
    have hj' : j < A.nN + 1 := hj
    by_cases e : i = A.nN
    · rw [e, h.nN, hlow]; intro v hv; simp at hv
    · by_cases e2 : j = A.nN
      · rw [e2, h.nN, hlow]; intro v hv hv'; simp at hv'
      · exact h.chs.apart i j (by omega) (by omega) hne

def updW (W : Nat → List (Int × Int)) (i : Nat) (l : List (Int × Int)) : Nat → List (Int × Int) := fun j => if j = i then l else W j

/-- Another version is laid ahead of a node's chain. -/
theorem LaidAt.push {ch : Nat → List Nat} {m : Nat} {W : Nat → List (Int × Int)} (h : LaidAt A ch m W) {i : Nat} (hi : i < m) (st : Int) (val : ByteArray) (bg q : Int) :
    LaidAt (((A.addVer st val bg (hd (ch i))).set (.end_ A.nV) q).set (.head i) ((A.nV : Int) + 1)) (updL ch i ((A.nV + 1) :: ch i)) m (updW W i ((bg, q) :: W i)) := by
  have hiN : i < A.nN := by rw [h.nN]; exact hi
  have hmem : ∀ j, j < A.nN → ∀ v ∈ ch j, 1 ≤ v ∧ v ≤ A.nV := fun j hj v hv => by
    obtain ⟨h1, h2⟩ := (h.chs.link j hj).mem v hv
    have := ver_lt h2
    exact ⟨h1, by omega⟩
  have hle : hd (ch i) ≤ A.nV := by
    cases hc : ch i with
    | nil => show (0 : Int) ≤ _; omega
    | cons v l =>
      have := (hmem i hiN v (by rw [hc]; simp)).2
      show (v : Int) ≤ _; omega
  have hnew := addVer_new A st val bg (hd (ch i))
  have h1 := h.chs.more st val bg (hd (ch i)) hle
  have h2 := h1.setEnd A.nV q
  have hv1 : ((A.addVer st val bg (hd (ch i))).set (.end_ A.nV) q).ver A.nV = true := by rw [ASt.ver_set]; exact hnew.1
  have hVn : ((A.addVer st val bg (hd (ch i))).set (.end_ A.nV) q).V A.nV = ⟨val, bg, q, hd (ch i), false⟩ := by
    show (if A.nV = A.nV then { (A.addVer st val bg (hd (ch i))).V A.nV with end_ := q } else _) = _
    rw [if_pos rfl]
    show ({ (if A.nV = A.nV then (⟨val, bg, 1099511627776, hd (ch i), false⟩ : AVer) else A.V A.nV) with end_ := q } : AVer) = _
    rw [if_pos rfl]
  have hVo : ∀ j, j ≠ A.nV → ((A.addVer st val bg (hd (ch i))).set (.end_ A.nV) q).V j = A.V j := fun j hj => by
    show (if j = A.nV then _ else (if j = A.nV then _ else A.V j)) = _
    rw [if_neg hj, if_neg hj]
  have h3 := h2.push (i := i) (v := A.nV + 1) hiN (by omega) (by rw [show A.nV + 1 - 1 = A.nV by omega]; exact hv1) (by rw [show A.nV + 1 - 1 = A.nV by omega, hVn]) (fun j hj hm => by have := (hmem j hj _ hm).2; omega)
  refine ⟨h3, h.nN, h.size, h.nT, fun j hj => ?_, fun j => ?_⟩
  · unfold updL; rw [if_neg (by omega)]; exact h.low j hj
  · have hpr : ∀ v, v ≠ A.nV + 1 → 1 ≤ v → pr (((A.addVer st val bg (hd (ch i))).set (.end_ A.nV) q).set (.head i) ((A.nV : Int) + 1)) v = pr A v := fun v hv hv1 => by
      have e : v - 1 ≠ A.nV := by omega
      have := hVo (v - 1) e
      unfold pr bgn enn
      show ((((A.addVer st val bg (hd (ch i))).set (.end_ A.nV) q).V (v - 1)).begin_, (((A.addVer st val bg (hd (ch i))).set (.end_ A.nV) q).V (v - 1)).end_) = _
      rw [this]
    have hold : ∀ j, (ch j).map (pr (((A.addVer st val bg (hd (ch i))).set (.end_ A.nV) q).set (.head i) ((A.nV : Int) + 1))) = W j := fun j => by
      rw [← h.words j]
      refine List.map_congr_left fun v hv => ?_
      by_cases hj : j < A.nN
      · have := hmem j hj v hv
        exact hpr v (by omega) this.1
      · rw [h.low j (by rw [← h.nN]; omega)] at hv; simp at hv
    unfold updL updW
    by_cases e : j = i
    · rw [if_pos e, if_pos e, List.map_cons, hold i]
      congr 1
      unfold pr bgn enn
      show ((((A.addVer st val bg (hd (ch i))).set (.end_ A.nV) q).V (A.nV + 1 - 1)).begin_, (((A.addVer st val bg (hd (ch i))).set (.end_ A.nV) q).V (A.nV + 1 - 1)).end_) = _
      rw [show A.nV + 1 - 1 = A.nV by omega, hVn]
    · rw [if_neg e, if_neg e]; exact hold j
end Go.Proofs.YtbodobdllchmgaaDoor
namespace Go.Proofs.YtbodobdllchmgaaDoor
open Go Go.RowKit
set_option linter.unusedVariables false

/-- Five results. -/
theorem results_tmp5 {fn : Func} {t u v x y : Tmp} (h : fn.results = #[.tmp t, .tmp u, .tmp v, .tmp x, .tmp y]) (tmps : Array Value) (P : Program) (w : World) :
    (Go.results fn tmps).run P w = .ok (.tuple #[tmps.getD t undef, tmps.getD u undef, tmps.getD v undef, tmps.getD x undef, tmps.getD y undef]) w := by
  simp [Go.results, h, Sem.run_pure]

/-- A chain's words, as they came. -/
structure CV where
  pb : Option Addr
  nb : Nat
  cb : Nat
  zb : Nat → Int
  pe : Option Addr
  ne : Nat
  ce : Nat
  ze : Nat → Int

/-- Chains that can be read. -/
def ChIn (w : World) (p : Option Addr) (n : Nat) (c : Nat → CV) : Prop :=
  0 < n → ∃ g off, p = some ⟨g, off, none⟩ ∧ ∀ i, i < n → w.cell? ⟨g, off + i * 2, none⟩ = some (.slice (c i).pb (c i).nb (c i).cb) ∧ w.cell? ⟨g, off + i * 2 + 1, none⟩ = some (.slice (c i).pe (c i).ne (c i).ce) ∧
    WRow w (c i).pb (c i).nb (c i).cb (c i).zb ∧ WRow w (c i).pe (c i).ne (c i).ce (c i).ze
theorem ChIn.kept {w w' : World} {p : Option Addr} {n : Nat} {c : Nat → CV} (h : ChIn w p n c) (k : Kept [] w w') : ChIn w' p n c := by
  intro h0
  obtain ⟨g, off, e, hc⟩ := h h0
  exact ⟨g, off, e, fun i hi => ⟨k.cell (hc i hi).1 (by simp), k.cell (hc i hi).2.1 (by simp), (hc i hi).2.2.1.kept k, (hc i hi).2.2.2.kept k⟩⟩

/-- The words of a chain that is laid, the newest first. -/
def wds (zb ze : Nat → Int) (ne : Nat) : Nat → List (Int × Int)
  | 0 => []
  | k + 1 => if wBegins (zb k) = true then (zb k, if k < ne then endW (ze k) else 1099511627776) :: wds zb ze ne k else wds zb ze ne k
def to30 (n : Nat) : Nat := if n < 30 then n else 30
def WL (c : Nat → CV) (m : Nat) (j : Nat) : List (Int × Int) := if j < m then wds (c j).zb (c j).ze (c j).ne (to30 (c j).nb) else []
def nodesL (m : Nat) : List Int := (List.range m).map fun j : Nat => (j : Int) + 1

theorem WL_succ (c : Nat → CV) (i : Nat) : updW (WL c i) i (wds (c i).zb (c i).ze (c i).ne (to30 (c i).nb)) = WL c (i + 1) := by
  funext j
  unfold updW WL
  by_cases e : j = i
  · subst e; rw [if_pos rfl, if_pos (by omega)]
  · rw [if_neg e]
    by_cases h : j < i
    · rw [if_pos h, if_pos (by omega)]
    · rw [if_neg h, if_neg (by omega)]
theorem WL_zero (c : Nat → CV) (i : Nat) : updW (WL c i) i [] = WL c i := by
  funext j
  unfold updW WL
  by_cases e : j = i
  · subst e; rw [if_pos rfl, if_neg (by omega)]
  · rw [if_neg e]
theorem WL_none (c : Nat → CV) : WL c 0 = fun _ => [] := by
  funext j; unfold WL; rw [if_neg (by omega)]
theorem updW_updW (W : Nat → List (Int × Int)) (i : Nat) (a b : List (Int × Int)) : updW (updW W i a) i b = updW W i b := by
  funext j; unfold updW; split <;> rfl
theorem nodesL_succ (m : Nat) : nodesL (m + 1) = nodesL m ++ [(m : Int) + 1] := by unfold nodesL; rw [List.range_succ, List.map_append]; rfl
theorem nodesL_len (m : Nat) : (nodesL m).length = m := by unfold nodesL; simp

theorem end_same (A : ASt) (st : Int) (val : ByteArray) (bg nx : Int) : (A.addVer st val bg nx).set (.end_ A.nV) 1099511627776 = A.addVer st val bg nx := by
  show ({ A.addVer st val bg nx with V := fun j => if j = A.nV then { (A.addVer st val bg nx).V j with end_ := 1099511627776 } else (A.addVer st val bg nx).V j } : ASt) = A.addVer st val bg nx
  have : (fun j => if j = A.nV then { (A.addVer st val bg nx).V j with end_ := 1099511627776 } else (A.addVer st val bg nx).V j) = (A.addVer st val bg nx).V := by
    funext j
    by_cases e : j = A.nV
    · subst e
      rw [if_pos rfl]
      show ({ (if A.nV = A.nV then (⟨val, bg, 1099511627776, nx, false⟩ : AVer) else A.V A.nV) with end_ := 1099511627776 } : AVer) = (if A.nV = A.nV then (⟨val, bg, 1099511627776, nx, false⟩ : AVer) else A.V A.nV)
      rw [if_pos rfl]
    · rw [if_neg e]
  rw [this]

variable {w : World} {b rb : Nat} {A : ASt} {rs : Int}

theorem laid_last {ch : Nat → List Nat} {m : Nat} {W : Nat → List (Int × Int)} (h : LaidAt A ch m W) {i : Nat} (hi : i < m) : (hd (ch i) = 0 ∨ A.isV (hd (ch i)) = true) ∧ A.at_ (.head i) = some (hd (ch i)) := by
  have hiN : i < A.nN := by rw [h.nN]; exact hi
  refine ⟨?_, by rw [(some_of hiN).1, h.chs.head i hiN]⟩
  cases hc : ch i with
  | nil => exact .inl rfl
  | cons v l =>
    right
    have := h.chs.link i hiN
    rw [hc] at this
    have e : hd (v :: l) = ((v - 1 : Nat) : Int) + 1 := by show (v : Int) = _; have := this.1; omega
    rw [e]
    exact is_ver this.2.1

theorem ints_append {o : List Nat} {w0 w w5 : World} {B : Part} {v v' : Value} {l : List Int} {x : Int} (ob : Obj) (h : Has o w0 w (B.sep (.ints v l))) (happ : Appended (w.alloc ob) w5 3 1 v v' (l.length + 1) (l.map (Value.int .i64) ++ [.int .i64 x])) :
    Has o w0 w5 (B.sep (.ints v' (l ++ [x]))) := by
  obtain ⟨o1, h1, _, _, b1⟩ := h.right
  refine b1 w5 (.ints v' (l ++ [x])) ?_
  have := h1.appendRow (m := 1) (news := [.int .i64 x]) ob happ
  unfold Part.ints
  rw [List.length_append, List.map_append]
  exact this

theorem updW_cons (X : Nat → List (Int × Int)) (i : Nat) (a : List (Int × Int)) (q : Int × Int) : updW (updW X i a) i (q :: updW X i a i) = updW X i (q :: a) := by
  rw [updW_updW]
  congr 2
  unfold updW; rw [if_pos rfl]
theorem wds_yes {zb ze : Nat → Int} {ne v : Nat} (h : wBegins (zb v) = true) : wds zb ze ne (v + 1) = (zb v, if v < ne then endW (ze v) else 1099511627776) :: wds zb ze ne v := by
  rw [wds, if_pos h]
theorem wds_no {zb ze : Nat → Int} {ne v : Nat} (h : wBegins (zb v) = false) : wds zb ze ne (v + 1) = wds zb ze ne v := by
  rw [wds, if_neg (by simp [h])]
theorem isV_addVer {A : ASt} {n : Int} (st : Int) (val : ByteArray) (bg nx : Int) (h : A.isV n = true) : (A.addVer st val bg nx).isV n = true := by
  obtain ⟨j, rfl, hj⟩ := isV_at h
  have hlt := ver_lt hj
  have : (A.addVer st val bg nx).ver j = true := by
    unfold ASt.ver at hj ⊢
    have e : (A.addVer st val bg nx).V j = A.V j := by show (if j = A.nV then _ else A.V j) = _; rw [if_neg (by omega)]
    rw [e]
    simp only [Bool.and_eq_true, decide_eq_true_eq] at hj ⊢
    exact ⟨by show j < A.nV + 1; omega, hj.2⟩
  exact is_ver this
theorem isV_set (A : ASt) (l : Loc) (q n : Int) : (A.set l q).isV n = A.isV n := by
  unfold ASt.isV; rw [A.ver_set]

/-- What laid leaves. -/
def LaidOut (w w' : World) (b ab rb : Nat) (nv : Value) (n : Nat) (c : Nat → CV) : Prop :=
  ∃ (A : ASt) (ch : Nat → List Nat) (rs : Int) (m : Nat), m = (if n < 20 then n else 20) ∧ A.ab = ab ∧ LaidAt A ch m (WL c m) ∧ A.nV ≤ 30 * m ∧ Has [] w w' ((Part.two b rb A A rs).sep (.ints nv (nodesL m)))

set_option maxHeartbeats 16000000 in
set_option maxRecDepth 100000 in
theorem laid_walk (w : World) (hT : TabAt w) (p : Option Addr) (n cap : Nat) (c : Nat → CV) (hin : ChIn w p n c) (hn : n ≤ 9000000000000000000) :
    Calls Tryd.prog 17 #[.slice p n cap] w fun e w' => ∃ b ab rb nv, e = .returned (.tuple #[P0 b, P0 ab, P0 rb, nv, .bool true]) ∧ LaidOut w w' b ab rb nv n c := by
  have HT := Lib.hid hT
  have HIN := Lib.hid hin
  obtain ⟨i0, hi0, hz0, hz1, hz2⟩ := info_parts info_int
  clear hT hin
  go_enter Tryd.func17, Tryd.ntmps17
  go_wp2_with fail
  refine (new_both w w (Kept.refl _ _) 4000 (by omega) (by omega)).mono ?_
  rintro e w1 ⟨ab, rfl, hA⟩
  have HA := Lib.hid hA
  clear hA
  go_wp2_with fail
  refine (new_store (by omega) HA.out).mono ?_
  rintro e w2 ⟨b, rfl, hX⟩
  have HX := Lib.hid ((two_fresh hX).beside (Has.nilInts _))
  generalize hrb : w2.heap.size = rb at *
  clear hX HA
  go_wp2_with fail
  go_loopg [12, 13] 20 (fun k nv iv wr => ∃ (i : Nat) (A : ASt) (ch : Nat → List Nat) (rs : Int), i ≤ n ∧ i ≤ 20 ∧ k = 20 - i ∧ iv = .int .i64 i ∧ LaidAt A ch i (WL c i) ∧ A.nV ≤ 30 * i ∧ A.ab = ab ∧ Has [] w wr ((Part.two b rb A A rs).sep (.ints nv (nodesL i))))
  case atStart => exact ⟨0, _, _, 0, Nat.zero_le _, Nat.zero_le _, rfl, rfl, by rw [WL_none]; exact LaidAt.new ab, Nat.zero_le _, rfl, HX.out⟩
  case round =>
    clear HX
    obtain ⟨i, A, ch, rs, hi, hi20, hk, rfl, hL, hV, hab, hX⟩ := hrel
    have HKK := Lib.hid hk
    have HL := Lib.hid hL
    have HV := Lib.hid hV
    have HAB := Lib.hid hab
    have HX := Lib.hid hX
    clear hk hL hV hab hX
    by_cases hlt : i < n ∧ i < 20
    · obtain ⟨hin, hi2⟩ := hlt
      have d1 : decide ((i : Int) < (n : Int)) = true := by simp; omega
      have d1' : decide (i < n) = true := by simp; omega
      have d2 : decide ((i : Int) < 20) = true := by simp; omega
      have d2' : decide (i < 20) = true := by simp; omega
      obtain ⟨PN1, PN2⟩ := pair_node HX.out HT.out tab_nil (by have h1 := HL.out.used; have h2 := HV.out; have h3 := HL.out.size; omega) (by rw [HL.out.nN]; omega)
      rw [HL.out.nN] at PN1 PN2
      have HP1 := Lib.hid PN1
      have HP2 := Lib.hid PN2
      clear PN1 PN2 HX
      go_wp2_with fail
      refine HP1.out.mono ?_
      rintro e w3 ⟨rfl, st3, hX⟩
      have HP := Lib.hid (HP2.out _ _ hX)
      clear hX HP1 HP2
      go_wp2_with fail
      refine HP.out.mono ?_
      rintro e w4 ⟨rfl, rs4, hX⟩
      have HX := Lib.hid hX
      have hL2 := (HL.out.node A.steps).at st3
      have hV2 : ((A.addNode A.steps).at st3).nV ≤ 30 * i := HV.out
      have hab2 : ((A.addNode A.steps).at st3).ab = ab := HAB.out
      generalize (A.addNode A.steps).at st3 = A4 at *
      have HL2 := Lib.hid hL2
      have HV2 := Lib.hid hV2
      have HAB2 := Lib.hid hab2
      obtain ⟨o3, h3, _⟩ := hX.right
      obtain ⟨np, nc, hnv⟩ := ap_ints h3
      have HROW := Lib.hid (ap_row (h3.alloc (.cells #[.int .i64 ((i : Int) + 1)] 3)))
      subst hnv
      clear hX h3 HP HL HV HAB hL2 hV2 hab2
      go_wp2_with (at_builtin; refine wpList_append_new rfl (.tmp 58) (.tmp 60) 22 rfl 3 i0 (.int .i64 0) 1 8 Tryd.underlying22 hi0 hz0 hz1 hz2 rfl (by decide) _ _ _ rfl HROW.out ⟨w4.heap.size, 0, none⟩ 1 1 [.int .i64 ((i : Int) + 1)] rfl rfl (cell_one w4 w4.heap.size _ _ rfl) (by intro u hu; simp at hu; subst hu; rfl) (by simp only [maxLen, nodesL_len]; omega) (by simp only [nodesL_len]; omega) ?_)
      intro v' w5 happ
      have hX := ints_append _ HX.out happ
      rw [← nodesL_succ] at hX
      have HX5 := Lib.hid hX
      clear happ hX HX
      obtain ⟨g, off, rfl, hcc⟩ := HIN.out (by omega)
      have HCH := Lib.hid (hcc i hin)
      have HCC := Lib.hid hcc
      clear hcc
      go_wp2_with fail
      go_loopg [16, 17] 30 (fun r lv vv wx => ∃ (v : Nat) (A : ASt) (ch : Nat → List Nat) (rs : Int), v ≤ (c i).nb ∧ v ≤ 30 ∧ r = 30 - v ∧ lv = .int .i64 (hd (ch i)) ∧ vv = .int .i64 v ∧ LaidAt A ch (i + 1) (updW (WL c i) i (wds (c i).zb (c i).ze (c i).ne v)) ∧ A.nV ≤ 30 * i + v ∧ A.ab = ab ∧ Has [] w wx ((Part.two b rb A A rs).sep (.ints v' (nodesL (i + 1)))))
      case atStart => exact ⟨0, A4, ch, _, Nat.zero_le _, Nat.zero_le _, rfl, by rw [HL2.out.low' (by unfold WL; rw [if_neg (Nat.lt_irrefl i)])]; rfl, rfl, by unfold wds; rw [WL_zero]; exact HL2.out, HV2.out, HAB2.out, HX5.out⟩
      case round =>
        clear HX5 HL2 HV2 HAB2
        obtain ⟨v, A, ch, rs, hv, hv30, hr5, rfl, rfl, hL, hV, hab, hX⟩ := hrel
        have HKR := Lib.hid hr5
        have HL := Lib.hid hL
        have HV := Lib.hid hV
        have HAB := Lib.hid hab
        have HX := Lib.hid hX
        obtain ⟨k1, k2, rb1, re1⟩ := HCH.out
        have c1 := hX.keeps.cell k1 (by simp)
        have c2 := hX.keeps.cell k2 (by simp)
        have q1 : 0 ≤ (i : Int) ∧ (i : Int) < (n : Int) := by omega
        have RB := Lib.hid (rb1.kept hX.keeps)
        have RE := Lib.hid (re1.kept hX.keeps)
        have m9 : (c i).nb ≤ 9223372036854775807 := Nat.le_trans (Nat.le_trans rb1.le rb1.max) (by decide)
        have m8 : (c i).ne ≤ 9223372036854775807 := Nat.le_trans (Nat.le_trans re1.le re1.max) (by decide)
        clear hr5 hL hV hab hX k1 k2 rb1 re1
        by_cases hvk : v < (c i).nb ∧ v < 30
        · obtain ⟨hvn, hv3⟩ := hvk
          have g1 : decide ((v : Int) < ((c i).nb : Int)) = true := by simp; omega
          have g1' : decide (v < (c i).nb) = true := by simp; omega
          have g2 : decide ((v : Int) < 30) = true := by simp; omega
          have g2' : decide (v < 30) = true := by simp; omega
          obtain ⟨b1, o1, eb, _, hc1⟩ := RB.out.cell (by omega)
          have x1 := hc1 v hvn
          obtain ⟨z0, z1⟩ := RB.out.rng v hvn
          rw [eb] at c1
          have q2 : 0 ≤ (v : Int) ∧ (v : Int) < ((c i).nb : Int) := by omega
          obtain ⟨l1, l2⟩ := laid_last HL.out (i := i) (by omega)
          have HL1 := Lib.hid l1
          have HL2 := Lib.hid l2
          clear hc1 eb l1 l2
          cases hbg : wBegins ((c i).zb v)
          · obtain ⟨PV1, PV2⟩ := pair_noword HX.out ⟨#[118]⟩ (by decide) ((c i).zb v) (hd (ch i)) z0 z1 hbg
            have HP1 := Lib.hid PV1
            have HP2 := Lib.hid PV2
            have HBG := Lib.hid hbg
            clear PV1 PV2 HX hbg
            go_wp2_with fail
            refine HP1.out.mono ?_
            rintro e w6 ⟨rfl, st6, hX⟩
            have y1 := hX.keeps.cell HCH.out.1 (by simp)
            obtain ⟨b6, o6, eb6, _, hc6⟩ := (HCH.out.2.2.1.kept hX.keeps).cell (by omega)
            have y2 := hc6 v hvn
            rw [eb6] at y1
            have HP := Lib.hid (HP2.out _ _ hX)
            clear hX HP1 HP2 c1 c2 x1 hc6 eb6
            go_wp2_with fail
            refine HP.out.mono ?_
            rintro e w7 ⟨rfl, rs7, hX⟩
            have HX7 := Lib.hid hX
            clear hX HP y1 y2
            go_wp2_with fail
            go_roundg (30 - (v + 1))
            case measure => rw [HKR.out]; omega
            case rel => exact ⟨v + 1, A.at st6, ch, rs7, by omega, by omega, rfl, rfl, by go_num, by rw [wds_no HBG.out]; exact HL.out.at st6, by have := HV.out; show A.nV ≤ _; omega, HAB.out, HX7.out⟩
          · obtain ⟨PV1, PV2⟩ := pair_version HX.out HT.out tab_nil (by have h1 := HL.out.used; have h2 := HV.out; have h3 := HL.out.size; omega) (by have := HV.out; omega) ⟨#[118]⟩ (by decide) ((c i).zb v) (hd (ch i)) z0 z1 hbg HL1.out
            have HP1 := Lib.hid PV1
            have HP2 := Lib.hid PV2
            have HBG := Lib.hid hbg
            clear PV1 PV2 HX hbg
            go_wp2_with fail
            refine HP1.out.mono ?_
            rintro e w6 ⟨rfl, st6, hX⟩
            have y1 := hX.keeps.cell HCH.out.1 (by simp)
            obtain ⟨b6, o6, eb6, _, hc6⟩ := (HCH.out.2.2.1.kept hX.keeps).cell (by omega)
            have y2 := hc6 v hvn
            rw [eb6] at y1
            have HP := Lib.hid (HP2.out _ _ hX)
            clear hX HP1 HP2 c1 c2 x1 hc6 eb6
            go_wp2_with fail
            refine HP.out.mono ?_
            rintro e w7 ⟨rfl, rs7, hX⟩
            have y3 := hX.keeps.cell HCH.out.2.1 (by simp)
            have RE7 := Lib.hid (HCH.out.2.2.2.kept hX.keeps)
            have HNW := Lib.hid (addVer_new A A.steps ⟨#[118]⟩ ((c i).zb v) (hd (ch i)))
            have HX7 := Lib.hid hX
            clear hX HP y1 y2
            by_cases hve : v < (c i).ne
            · have e1 : decide ((v : Int) < ((c i).ne : Int)) = true := by simp; omega
              have e1' : decide (v < (c i).ne) = true := by simp; omega
              have q3 : 0 ≤ (v : Int) ∧ (v : Int) < ((c i).ne : Int) := by omega
              obtain ⟨b7, o7, eb7, _, hc7⟩ := RE7.out.cell (by omega)
              have y4 := hc7 v hve
              obtain ⟨t0, t1⟩ := RE7.out.rng v hve
              rw [eb7] at y3
              have hend : (((A.addVer A.steps ⟨#[118]⟩ ((c i).zb v) (hd (ch i))).at st6).V A.nV).end_ = 1099511627776 := by
                show ((if A.nV = A.nV then (⟨⟨#[118]⟩, (c i).zb v, 1099511627776, hd (ch i), false⟩ : AVer) else A.V A.nV)).end_ = _
                rw [if_pos rfl]
              obtain ⟨ce7, PE1, PE2⟩ := pair_end HX7.out A.nV HNW.out.1 hend ((c i).ze v) t0 t1
              have HE1 := Lib.hid PE1
              have HE2 := Lib.hid PE2
              clear PE1 PE2 HX7 hc7 eb7 hend
              go_wp2_with fail
              refine HE1.out.mono ?_
              rintro e w10 ⟨rfl, st10, hX⟩
              have y5 := hX.keeps.cell HCH.out.2.1 (by simp)
              obtain ⟨b8, o8, eb8, _, hc8⟩ := (HCH.out.2.2.2.kept hX.keeps).cell (by omega)
              have y6 := hc8 v hve
              rw [eb8] at y5
              have HE := Lib.hid (HE2.out _ _ hX)
              clear hX HE1 HE2 y3 y4 hc8 eb8
              go_wp2_with fail
              refine HE.out.mono ?_
              rintro e w11 ⟨rfl, rs11, hX⟩
              have HXP := Lib.hid hX
              have HLH := Lib.hid (show ((((A.addVer A.steps ⟨#[118]⟩ ((c i).zb v) (hd (ch i))).at st6).set (.end_ A.nV) (endW ((c i).ze v))).at st10).at_ (.head i) = some (hd (ch i)) from HL2.out)
              have HLV := Lib.hid (show hd (ch i) = 0 ∨ ((((A.addVer A.steps ⟨#[118]⟩ ((c i).zb v) (hd (ch i))).at st6).set (.end_ A.nV) (endW ((c i).ze v))).at st10).isV (hd (ch i)) = true from HL1.out.imp id fun h => (isV_set _ _ _ _).trans (isV_addVer _ _ _ _ h))
              have HVN := Lib.hid (show ((((A.addVer A.steps ⟨#[118]⟩ ((c i).zb v) (hd (ch i))).at st6).set (.end_ A.nV) (endW ((c i).ze v))).at st10).ver A.nV = true from (ASt.ver_set _ _ _ _).trans HNW.out.1)
              have HLF := Lib.hid (fun st8 => show LaidAt ((((((A.addVer A.steps ⟨#[118]⟩ ((c i).zb v) (hd (ch i))).at st6).set (.end_ A.nV) (endW ((c i).ze v))).at st10).set (.head i) ((A.nV : Int) + 1)).at st8) (updL ch i ((A.nV + 1) :: ch i)) (i + 1) (updW (WL c i) i (wds (c i).zb (c i).ze (c i).ne (v + 1))) from by
                have := (HL.out.push (i := i) (by omega) A.steps ⟨#[118]⟩ ((c i).zb v) (endW ((c i).ze v))).at st8
                rw [updW_cons] at this
                rw [wds_yes HBG.out, if_pos hve]
                exact this)
              clear hX HE y5 y6
              have HPU := Lib.hid (pair_push HXP.out i A.nV (hd (ch i)) HLH.out HLV.out HVN.out (by show A.nV + 1 ≤ _; have := HV.out; omega))
              have HPU1 := Lib.hid HPU.out.1
              clear HXP
              go_wp2_with fail
              refine HPU1.out.mono ?_
              rintro e w8 ⟨rfl, st8, hX⟩
              have HPU2 := Lib.hid (HPU.out.2 _ _ hX)
              clear hX HPU HPU1
              go_wp2_with fail
              refine HPU2.out.mono ?_
              rintro e w9 ⟨rfl, rs9, hX⟩
              have HX9 := Lib.hid hX
              clear hX HPU2
              go_wp2_with fail
              go_roundg (30 - (v + 1))
              case measure => rw [HKR.out]; omega
              case rel => exact ⟨v + 1, _, updL ch i ((A.nV + 1) :: ch i), rs9, by omega, by omega, rfl, by unfold updL; rw [if_pos rfl]; rfl, by go_num, HLF.out st8, by show A.nV + 1 ≤ _; have := HV.out; omega, HAB.out, HX9.out⟩
            · have e1 : decide ((v : Int) < ((c i).ne : Int)) = false := by simp; omega
              have e1' : decide (v < (c i).ne) = false := by simp; omega
              have HXP := Lib.hid HX7.out
              have HLH := Lib.hid (show ((A.addVer A.steps ⟨#[118]⟩ ((c i).zb v) (hd (ch i))).at st6).at_ (.head i) = some (hd (ch i)) from HL2.out)
              have HLV := Lib.hid (show hd (ch i) = 0 ∨ ((A.addVer A.steps ⟨#[118]⟩ ((c i).zb v) (hd (ch i))).at st6).isV (hd (ch i)) = true from HL1.out.imp id fun h => (isV_addVer _ _ _ _ h))
              have HVN := Lib.hid (show ((A.addVer A.steps ⟨#[118]⟩ ((c i).zb v) (hd (ch i))).at st6).ver A.nV = true from HNW.out.1)
              have HLF := Lib.hid (fun st8 => show LaidAt ((((A.addVer A.steps ⟨#[118]⟩ ((c i).zb v) (hd (ch i))).at st6).set (.head i) ((A.nV : Int) + 1)).at st8) (updL ch i ((A.nV + 1) :: ch i)) (i + 1) (updW (WL c i) i (wds (c i).zb (c i).ze (c i).ne (v + 1))) from by
                have := (HL.out.push (i := i) (by omega) A.steps ⟨#[118]⟩ ((c i).zb v) 1099511627776).at st8
                rw [updW_cons, end_same] at this
                rw [wds_yes HBG.out, if_neg hve]
                exact this)
              clear HX7
              have HPU := Lib.hid (pair_push HXP.out i A.nV (hd (ch i)) HLH.out HLV.out HVN.out (by show A.nV + 1 ≤ _; have := HV.out; omega))
              have HPU1 := Lib.hid HPU.out.1
              clear HXP
              go_wp2_with fail
              refine HPU1.out.mono ?_
              rintro e w8 ⟨rfl, st8, hX⟩
              have HPU2 := Lib.hid (HPU.out.2 _ _ hX)
              clear hX HPU HPU1
              go_wp2_with fail
              refine HPU2.out.mono ?_
              rintro e w9 ⟨rfl, rs9, hX⟩
              have HX9 := Lib.hid hX
              clear hX HPU2
              go_wp2_with fail
              go_roundg (30 - (v + 1))
              case measure => rw [HKR.out]; omega
              case rel => exact ⟨v + 1, _, updL ch i ((A.nV + 1) :: ch i), rs9, by omega, by omega, rfl, by unfold updL; rw [if_pos rfl]; rfl, by go_num, HLF.out st8, by show A.nV + 1 ≤ _; have := HV.out; omega, HAB.out, HX9.out⟩
        · have hstop : (v < (c i).nb ∧ decide ((v : Int) < ((c i).nb : Int)) = true ∧ decide (v < (c i).nb) = true ∧ decide ((v : Int) < 30) = false ∧ decide (v < 30) = false ∧ v = to30 (c i).nb) ∨ (decide ((v : Int) < ((c i).nb : Int)) = false ∧ decide (v < (c i).nb) = false ∧ v = to30 (c i).nb) := by
            unfold to30
            by_cases h1 : v < (c i).nb
            · left; rw [if_neg (by omega)]; simp; omega
            · right; simp; split <;> omega
          have HST := Lib.hid hstop
          have HVE := Lib.hid (show v = to30 (c i).nb from hstop.elim (fun h => h.2.2.2.2.2) (fun h => h.2.2))
          clear hstop
          rcases HST.out with ⟨_, x1, x2, x3, x4, xx⟩ | ⟨x1, x2, xx⟩
          all_goals (
            clear xx
            go_wp2_with fail
            go_roundg (20 - (i + 1))
            case measure => rw [HKK.out]; omega
            case rel => exact ⟨i + 1, A, ch, rs, by omega, by omega, rfl, by go_num, by have h := HL.out; rw [HVE.out, WL_succ] at h; exact h, by have := HV.out; omega, HAB.out, HX.out⟩)
    · have hstop : (i < n ∧ decide ((i : Int) < (n : Int)) = true ∧ decide (i < n) = true ∧ decide ((i : Int) < 20) = false ∧ decide (i < 20) = false ∧ i = (if n < 20 then n else 20)) ∨ (decide ((i : Int) < (n : Int)) = false ∧ decide (i < n) = false ∧ i = (if n < 20 then n else 20)) := by
        by_cases h1 : i < n
        · left; rw [if_neg (by omega)]; simp; omega
        · right; simp; split <;> omega
      have HST := Lib.hid hstop
      have HVE := Lib.hid (show i = (if n < 20 then n else 20) from hstop.elim (fun h => h.2.2.2.2.2) (fun h => h.2.2))
      clear hstop hlt
      rcases HST.out with ⟨_, x1, x2, x3, x4, xx⟩ | ⟨x1, x2, xx⟩
      all_goals (
        clear xx
        go_wp2_with fail
        (try simp only [Exit.inBlock, Exit.then])
        refine bodyPost_ret (results_tmp5 rfl _ _ _) rfl ?_
        exact ⟨b, ab, rb, _, rfl, A, ch, rs, i, HVE.out, HAB.out, HL.out, HV.out, HX.out⟩)
end Go.Proofs.YtbodobdllchmgaaDoor
namespace Go.Proofs.YtbodobdllchmgaaDoor
open Go Go.RowKit
set_option linter.unusedVariables false

variable {o : List Nat} {w0 w : World} {B : Part}

/-- Words in order: each is ended when the next begins. -/
structure OrdL (bs es : List Int) (t : Int) : Prop where
  le : es.length ≤ bs.length
  len : bs.length ≤ es.length + 1
  b : ∀ x ∈ bs, 0 ≤ x ∧ x ≤ t
  e : ∀ x ∈ es, 0 ≤ x ∧ x ≤ t
  ord : ∀ k j, k < j → j < bs.length → es.getD k 0 ≤ bs.getD j 0
theorem OrdL.none : OrdL [] [] 0 := ⟨Nat.le_refl _, Nat.zero_le _, by simp, by simp, fun k j _ h => absurd h (Nat.not_lt_zero _)⟩
theorem OrdL.last {bs es : List Int} {t t' : Int} (h : OrdL bs es t) (he : es.length = bs.length) (h0 : 0 ≤ t) (ht : t ≤ t') : OrdL (bs ++ [t]) es t' := by
  refine ⟨by rw [List.length_append]; have := h.le; omega, by rw [List.length_append, he]; exact Nat.le_refl _, fun x hx => ?_, fun x hx => ⟨(h.e x hx).1, Int.le_trans (h.e x hx).2 ht⟩, fun k j hkj hj => ?_⟩
  · rcases List.mem_append.1 hx with hx | hx
    · exact ⟨(h.b x hx).1, Int.le_trans (h.b x hx).2 ht⟩
    · obtain rfl : x = t := by simpa using hx
      exact ⟨h0, ht⟩
  · rw [List.length_append, List.length_singleton] at hj
    by_cases e : j < bs.length
    · have := h.ord k j hkj e
      rw [List.getD_eq_getElem?_getD (l := bs ++ [t]), List.getElem?_append_left e, ← List.getD_eq_getElem?_getD]; exact this
    · have hk : k < es.length := by omega
      rw [List.getD_eq_getElem?_getD (l := bs ++ [t]), List.getElem?_append_right (by omega), show j - bs.length = 0 by omega]
      rw [List.getD_eq_getElem?_getD, List.getElem?_eq_getElem hk]
      exact (h.e _ (List.getElem_mem hk)).2
theorem OrdL.more {bs es : List Int} {t t' g : Int} (h : OrdL bs es t) (he : es.length = bs.length) (h0 : 0 ≤ t) (hg : 0 ≤ g) (ht : t + g ≤ t') : OrdL (bs ++ [t]) (es ++ [t + g]) t' := by
  have h1 := h.last he h0 (t' := t') (by omega)
  refine ⟨by rw [List.length_append, List.length_append]; simp; omega, by rw [List.length_append, List.length_append]; simp; omega, h1.b, fun x hx => ?_, fun k j hkj hj => ?_⟩
  · rcases List.mem_append.1 hx with hx | hx
    · exact h1.e x hx
    · obtain rfl : x = t + g := by simpa using hx
      omega
  · have := h1.ord k j hkj hj
    rw [List.length_append, List.length_singleton] at hj
    rw [List.getD_eq_getElem?_getD (l := es ++ [t + g]), List.getElem?_append_left (by omega), ← List.getD_eq_getElem?_getD]; exact this

/-- A chain that is being made. -/
def fld (a b : Value) : Nat → Value
  | 0 => a
  | _ + 1 => b
noncomputable def Part.chn (c : Nat) (vb ve : Value) (bs es : List Int) : Part := (Part.blk c 2 50 (fld vb ve)).sep ((Part.u64s vb bs).sep (Part.u64s ve es))

theorem fld_upd {w : World} {c : Nat} {T : TypeId} {f g : Nat → Value} (h : Blk w c 2 T f) (h0 : f 0 = g 0) (h1 : f 1 = g 1) : Blk w c 2 T g :=
  h.congr fun i hi => by
    rcases (by omega : i = 0 ∨ i = 1) with rfl | rfl
    · exact h0
    · exact h1
theorem chn_cells {c : Nat} {vb ve : Value} {bs es : List Int} (h : Has o w0 w (B.sep (.chn c vb ve bs es))) : w.cell? ⟨c, 0, none⟩ = some vb ∧ w.cell? ⟨c, 1, none⟩ = some ve ∧ w.frozen? ⟨c, 0, none⟩ = false ∧ w.frozen? ⟨c, 1, none⟩ = false := by
  obtain ⟨_, h1, _⟩ := h.right
  obtain ⟨_, h2, _⟩ := h1.left
  obtain ⟨a0, a1, _⟩ := h2.blkAt (i := 0) (by omega)
  obtain ⟨b0, b1, _⟩ := h2.blkAt (i := 1) (by omega)
  exact ⟨a0, b0, a1, b1⟩
theorem chn_rows {c : Nat} {vb ve : Value} {bs es : List Int} (h : Has o w0 w (B.sep (.chn c vb ve bs es))) : w.ownsRow 0 56 1 vb bs.length (bs.map (Value.int .u64)) ∧ w.ownsRow 0 56 1 ve es.length (es.map (Value.int .u64)) := by
  obtain ⟨_, h1, _⟩ := h.right
  obtain ⟨_, h2, _⟩ := h1.right
  obtain ⟨_, h3, _⟩ := h2.left
  obtain ⟨_, h4, _⟩ := h2.right
  obtain ⟨_, ⟨r3, _⟩, _⟩ := h3
  obtain ⟨_, ⟨r4, _⟩, _⟩ := h4
  exact ⟨r3, r4⟩
theorem row_slice {w : World} {e : TypeId} {v : Value} {n : Nat} {xs : List Value} (h : w.ownsRow 0 e 1 v n xs) : ∃ p m c, v = .slice p m c := by
  rcases rowN_open h with ⟨e, h0⟩ | ⟨g, c, e, _⟩
  · exact ⟨none, 0, 0, e⟩
  · exact ⟨_, n, c, e⟩
theorem chn_b {c : Nat} {vb ve v' : Value} {bs es : List Int} {w5 : World} {x : Int} (ob : Obj) (h : Has o w0 w (B.sep (.chn c vb ve bs es))) (happ : Appended (w.alloc ob) w5 56 1 vb v' (bs.length + 1) (bs.map (Value.int .u64) ++ [.int .u64 x])) :
    w5.frozen? ⟨c, 0, none⟩ = false ∧ w5.cell? ⟨c, 0, none⟩ = some vb ∧ Has o w0 (w5.setCell ⟨c, 0, none⟩ v') (B.sep (.chn c v' ve (bs ++ [x]) es)) := by
  obtain ⟨o1, h1, _, _, b1⟩ := h.right
  obtain ⟨o2, h2, _, _, b2⟩ := h1.right
  obtain ⟨o3, h3, _, _, b3⟩ := h2.left
  have h5 : Has o3 w w5 (.u64s v' (bs ++ [x])) := by
    have := h3.appendRow (m := 1) (news := [.int .u64 x]) ob happ
    unfold Part.u64s
    rw [List.length_append, List.map_append]
    exact this
  have h6 := b2 _ _ (b3 _ _ h5)
  obtain ⟨o4, h7, _, _, b4⟩ := h6.left
  obtain ⟨c0, z0, s0⟩ := h7.blkAt (i := 0) (by omega)
  refine ⟨z0, c0, b1 _ _ ?_⟩
  refine b4 _ _ ((s0 v').mono ?_)
  rintro fp ⟨hb, rfl⟩
  exact ⟨fld_upd hb rfl rfl, rfl⟩
theorem chn_e {c : Nat} {vb ve v' : Value} {bs es : List Int} {w5 : World} {x : Int} (ob : Obj) (h : Has o w0 w (B.sep (.chn c vb ve bs es))) (happ : Appended (w.alloc ob) w5 56 1 ve v' (es.length + 1) (es.map (Value.int .u64) ++ [.int .u64 x])) :
    w5.frozen? ⟨c, 1, none⟩ = false ∧ w5.cell? ⟨c, 1, none⟩ = some ve ∧ Has o w0 (w5.setCell ⟨c, 1, none⟩ v') (B.sep (.chn c vb v' bs (es ++ [x]))) := by
  obtain ⟨o1, h1, _, _, b1⟩ := h.right
  obtain ⟨o2, h2, _, _, b2⟩ := h1.right
  obtain ⟨o3, h3, _, _, b3⟩ := h2.right
  have h5 : Has o3 w w5 (.u64s v' (es ++ [x])) := by
    have := h3.appendRow (m := 1) (news := [.int .u64 x]) ob happ
    unfold Part.u64s
    rw [List.length_append, List.map_append]
    exact this
  have h6 := b2 _ _ (b3 _ _ h5)
  obtain ⟨o4, h7, _, _, b4⟩ := h6.left
  obtain ⟨c0, z0, s0⟩ := h7.blkAt (i := 1) (by omega)
  refine ⟨z0, c0, b1 _ _ ?_⟩
  refine b4 _ _ ((s0 v').mono ?_)
  rintro fp ⟨hb, rfl⟩
  exact ⟨fld_upd hb rfl rfl, rfl⟩
theorem chn_new (w : World) : Has [] w ((w.alloc (.cells #[.slice none 0 0, .slice none 0 0] 50)).alloc (.cells #[.slice none 0 0, .slice none 0 0] 50))
    ((Part.blk w.heap.size 2 50 (fld (.slice none 0 0) (.slice none 0 0))).sep (.chn (w.heap.size + 1) (.slice none 0 0) (.slice none 0 0) [] [])) := by
  have h1 := Has.madeBlk (w := w) #[.slice none 0 0, .slice none 0 0] 50 (fld (.slice none 0 0) (.slice none 0 0)) 2 rfl (fun i hi => match i, hi with | 0, _ => rfl | 1, _ => rfl)
  have h2 := Has.madeBlk (w := w.alloc (.cells #[.slice none 0 0, .slice none 0 0] 50)) #[.slice none 0 0, .slice none 0 0] 50 (fld (.slice none 0 0) (.slice none 0 0)) 2 rfl (fun i hi => match i, hi with | 0, _ => rfl | 1, _ => rfl)
  rw [show (w.alloc (.cells #[.slice none 0 0, .slice none 0 0] 50)).heap.size = w.heap.size + 1 by simp] at h2
  exact h1.beside (h2.beside ((Has.nilW _).beside (Has.nilW _)))

theorem blk_two {b : Nat} {T : TypeId} {f : Nat → Value} (h : Has o w0 w ((Part.blk b 2 T f).sep B)) (u v : Value) :
    w.cell? ⟨b, 0, none⟩ = some (f 0) ∧ w.cell? ⟨b, 1, none⟩ = some (f 1) ∧ w.frozen? ⟨b, 0, none⟩ = false ∧ w.frozen? ⟨b, 1, none⟩ = false ∧ Has o w0 ((w.setCell ⟨b, 0, none⟩ u).setCell ⟨b, 1, none⟩ v) ((Part.blk b 2 T (upd (upd f 0 u) 1 v)).sep B) := by
  obtain ⟨o1, h1, _, _, b1⟩ := h.left
  obtain ⟨c0, z0, s0⟩ := h1.blkAt (i := 0) (by omega)
  obtain ⟨c1, z1, _⟩ := h1.blkAt (i := 1) (by omega)
  have h2 := b1 _ _ (s0 u)
  obtain ⟨o2, h3, _, _, b2⟩ := h2.left
  obtain ⟨_, _, s1⟩ := h3.blkAt (i := 1) (by omega)
  exact ⟨c0, c1, z0, z1, b2 _ _ (s1 v)⟩
/-- The gap that a number tells. -/
def gap (z : Int) : Int := Int.tmod (Int.tmod z 4 + 4) 4
theorem gap_range (z : Int) : 0 ≤ gap z ∧ gap z < 4 := by
  have h1 := Int.tmod_lt_of_pos z (b := 4) (by omega)
  have h2 : -4 < Int.tmod z 4 := by have := Int.lt_tmod_of_pos z (b := 4) (by omega); omega
  unfold gap
  rw [Int.tmod_eq_emod_of_nonneg (by omega)]
  omega

set_option maxHeartbeats 4000000 in
set_option maxRecDepth 100000 in
theorem ordered_walk (w : World) (p : Option Addr) (n cap : Nat) (z : Nat → Int) (hin : InRow w p n z) (hn : n ≤ 9223372036854775807) (hz : ∀ i, i < n → -9223372036854775808 ≤ z i ∧ z i < 9223372036854775808) :
    Calls Tryd.prog 23 #[.slice p n cap] w fun e w' => ∃ vb ve bs es t, e = .returned (.agg #[vb, ve]) ∧ OrdL bs es t ∧ t ≤ 120 ∧ bs.length ≤ 30 ∧ Has [] w w' ((Part.u64s vb bs).sep (.u64s ve es)) := by
  have HIN := Lib.hid hin
  have HZ := Lib.hid hz
  obtain ⟨i0, hi0, hz0, hz1, hz2⟩ := info_parts info_u64
  have HX := Lib.hid (chn_new w)
  clear hin hz
  go_enter Tryd.func23, Tryd.ntmps23
  go_wp2_with fail
  go_loopg [4, 5] 30 (fun k tv iv wr => ∃ (i : Nat) (t : Int) (vb ve : Value) (bs es : List Int), i ≤ n ∧ i ≤ 30 ∧ k = 30 - i ∧ tv = .int .u64 t ∧ iv = .int .i64 i ∧ 0 ≤ t ∧ t ≤ 4 * i ∧ bs.length = i ∧ (i < n → es.length = i) ∧ OrdL bs es t ∧ Has [] w wr ((Part.blk w.heap.size 2 50 (fld (.slice none 0 0) (.slice none 0 0))).sep (.chn (w.heap.size + 1) vb ve bs es)))
  case atStart => exact ⟨0, 0, _, _, [], [], Nat.zero_le _, Nat.zero_le _, rfl, rfl, rfl, Int.le_refl _, by omega, rfl, fun _ => rfl, OrdL.none, HX.out⟩
  case round =>
    clear HX
    obtain ⟨i, t, vb, ve, bs, es, hi, hi30, hk, rfl, rfl, ht0, ht1, hbl, hel, hord, hX⟩ := hrel
    have HKK := Lib.hid hk
    have HBL := Lib.hid hbl
    have HEL := Lib.hid hel
    have HO := Lib.hid hord
    have HX := Lib.hid hX
    obtain ⟨cb, ce, zb, ze⟩ := chn_cells hX
    obtain ⟨pb, nb, kb, hvb⟩ := row_slice (chn_rows hX).1
    obtain ⟨pe, ne, ke, hve⟩ := row_slice (chn_rows hX).2
    subst hvb hve
    clear hk hbl hel hord hX
    by_cases hlt : i < n ∧ i < 30
    · obtain ⟨hin2, hi2⟩ := hlt
      have d1 : decide ((i : Int) < (n : Int)) = true := by simp; omega
      have d1' : decide (i < n) = true := by simp; omega
      have d2 : decide ((i : Int) < 30) = true := by simp; omega
      have d2' : decide (i < 30) = true := by simp; omega
      have q1 : 0 ≤ (i : Int) ∧ (i : Int) < (n : Int) := by omega
      obtain ⟨gm, om, rfl, _, hcm⟩ := HIN.out.2 (by omega)
      have cm1 := HX.out.keeps.cell (hcm i hin2) (by simp)
      obtain ⟨x, hx⟩ : ∃ x, z i = x := ⟨_, rfl⟩
      rw [hx] at cm1
      have hxr := HZ.out i hin2
      rw [hx] at hxr
      have hg := gap_range x
      have g1 := Int.tmod_lt_of_pos x (b := 4) (by omega)
      have g2 := Int.lt_tmod_of_pos x (b := 4) (by omega)
      obtain ⟨g, hgg⟩ : ∃ g, gap x = g := ⟨_, rfl⟩
      rw [hgg] at hg
      have e1 : IntKind.i64.wrap (Int.tmod x 4) = Int.tmod x 4 := by unfold IntKind.wrap; simp [IntKind.bits, IntKind.signed]; omega
      have e2 : IntKind.i64.wrap (Int.tmod x 4 + 4) = Int.tmod x 4 + 4 := by unfold IntKind.wrap; simp [IntKind.bits, IntKind.signed]; omega
      have e3 : Int.tmod (Int.tmod x 4 + 4) 4 = g := hgg
      have e4 : IntKind.i64.wrap g = g := by unfold IntKind.wrap; simp [IntKind.bits, IntKind.signed]; omega
      have e5 : IntKind.u64.wrap g = g := by unfold IntKind.wrap; simp [IntKind.bits, IntKind.signed]; omega
      have e6 : IntKind.u64.wrap (t + g) = t + g := by unfold IntKind.wrap; simp [IntKind.bits, IntKind.signed]; omega
      clear hcm hx hgg
      have HX0 := HX
      have HRW := Lib.hid (chn_rows (HX.out.alloc (.cells #[.int .u64 t] 56))).1
      rw [HBL.out] at HRW
      clear HX
      go_wp2_with (at_builtin; refine wpList_append_new rfl (.tmp 26) (.tmp 28) 31 rfl 56 i0 (.int .u64 0) 1 8 Tryd.underlying31 hi0 hz0 hz1 hz2 rfl (by decide) _ _ _ rfl HRW.out ⟨wr.heap.size, 0, none⟩ 1 1 [.int .u64 t] rfl rfl (cell_one wr wr.heap.size _ _ rfl) (by intro u hu; simp at hu; subst hu; rfl) (by simp only [maxLen]; omega) (by omega) ?_)
      intro v' w5 happ
      rw [← HBL.out] at happ
      obtain ⟨f5, c5, hX⟩ := chn_b _ HX0.out happ
      obtain ⟨p5, n5, k5, rfl⟩ := row_slice (chn_rows hX).1
      have HX := Lib.hid hX
      clear hX happ HRW HX0 cb ce zb ze
      have e7 : IntKind.u64.wrap (t + g + 1) = t + g + 1 := by unfold IntKind.wrap; simp [IntKind.bits, IntKind.signed]; omega
      have hg3 : (decide (g = 3) = true ∧ (g == 3) = true) ∨ (decide (g = 3) = false ∧ (g == 3) = false) := by
        by_cases h : g = 3
        · left; simp [h]
        · right; simp [h]
      have HG3 := Lib.hid hg3
      clear hg3
      have hcond : (decide ((i : Int) + 1 < (n : Int)) = true ∧ decide (i + 1 < n) = true) ∨ (decide ((i : Int) + 1 < (n : Int)) = false ∧ decide (i + 1 < n) = false ∧ decide (g < 2) = true) ∨ (decide ((i : Int) + 1 < (n : Int)) = false ∧ decide (i + 1 < n) = false ∧ decide (g < 2) = false) := by
        by_cases h1 : i + 1 < n
        · left; simp; omega
        · right
          by_cases h2 : g < 2
          · left; simp; omega
          · right; simp; omega
      have HC := Lib.hid hcond
      clear hcond
      rcases HC.out with ⟨x1, x2⟩ | ⟨x1, x2, x3⟩ | ⟨x1, x2, x3⟩
      · have HRW := Lib.hid (chn_rows (HX.out.alloc (.cells #[.int .u64 (t + g)] 56))).2
        rw [HEL.out hin2] at HRW
        obtain ⟨cb, ce, zb, ze⟩ := chn_cells HX.out
        have HX0 := HX
        clear HX
        go_wp2_with (at_builtin; refine wpList_append_new rfl (.tmp 44) (.tmp 46) 31 rfl 56 i0 (.int .u64 0) 1 8 Tryd.underlying31 hi0 hz0 hz1 hz2 rfl (by decide) _ _ _ rfl HRW.out ⟨_, 0, none⟩ 1 1 [.int .u64 (t + g)] rfl rfl (cell_one _ _ _ _ (by simp)) (by intro u hu; simp at hu; subst hu; rfl) (by simp only [maxLen]; omega) (by omega) ?_)
        intro v'' w6 happ
        rw [← HEL.out hin2] at happ
        obtain ⟨f6, c6, hX⟩ := chn_e _ HX0.out happ
        obtain ⟨p6, n6, k6, rfl⟩ := row_slice (chn_rows hX).2
        have HX := Lib.hid hX
        clear hX happ HRW HX0 cb ce zb ze
        rcases HG3.out with ⟨y1, y2⟩ | ⟨y1, y2⟩
        · go_wp2_with fail
          go_roundg (30 - (i + 1))
          case measure => rw [HKK.out]; omega
          case rel => exact ⟨i + 1, t + g + 1, _, _, bs ++ [t], es ++ [t + g], by omega, by omega, rfl, rfl, by go_num, by omega, by omega, by rw [List.length_append, HBL.out]; rfl, fun _ => by rw [List.length_append, HEL.out hin2]; rfl, HO.out.more (by rw [HBL.out, HEL.out hin2]) ht0 hg.1 (by omega), HX.out⟩
        · go_wp2_with fail
          go_roundg (30 - (i + 1))
          case measure => rw [HKK.out]; omega
          case rel => exact ⟨i + 1, t + g, _, _, bs ++ [t], es ++ [t + g], by omega, by omega, rfl, rfl, by go_num, by omega, by omega, by rw [List.length_append, HBL.out]; rfl, fun _ => by rw [List.length_append, HEL.out hin2]; rfl, HO.out.more (by rw [HBL.out, HEL.out hin2]) ht0 hg.1 (by omega), HX.out⟩
      · have HRW := Lib.hid (chn_rows (HX.out.alloc (.cells #[.int .u64 (t + g)] 56))).2
        rw [HEL.out hin2] at HRW
        obtain ⟨cb, ce, zb, ze⟩ := chn_cells HX.out
        have HX0 := HX
        clear HX
        go_wp2_with (at_builtin; refine wpList_append_new rfl (.tmp 44) (.tmp 46) 31 rfl 56 i0 (.int .u64 0) 1 8 Tryd.underlying31 hi0 hz0 hz1 hz2 rfl (by decide) _ _ _ rfl HRW.out ⟨_, 0, none⟩ 1 1 [.int .u64 (t + g)] rfl rfl (cell_one _ _ _ _ (by simp)) (by intro u hu; simp at hu; subst hu; rfl) (by simp only [maxLen]; omega) (by omega) ?_)
        intro v'' w6 happ
        rw [← HEL.out hin2] at happ
        obtain ⟨f6, c6, hX⟩ := chn_e _ HX0.out happ
        obtain ⟨p6, n6, k6, rfl⟩ := row_slice (chn_rows hX).2
        have HX := Lib.hid hX
        clear hX happ HRW HX0 cb ce zb ze
        rcases HG3.out with ⟨y1, y2⟩ | ⟨y1, y2⟩
        · go_wp2_with fail
          go_roundg (30 - (i + 1))
          case measure => rw [HKK.out]; omega
          case rel => exact ⟨i + 1, t + g + 1, _, _, bs ++ [t], es ++ [t + g], by omega, by omega, rfl, rfl, by go_num, by omega, by omega, by rw [List.length_append, HBL.out]; rfl, fun _ => by rw [List.length_append, HEL.out hin2]; rfl, HO.out.more (by rw [HBL.out, HEL.out hin2]) ht0 hg.1 (by omega), HX.out⟩
        · go_wp2_with fail
          go_roundg (30 - (i + 1))
          case measure => rw [HKK.out]; omega
          case rel => exact ⟨i + 1, t + g, _, _, bs ++ [t], es ++ [t + g], by omega, by omega, rfl, rfl, by go_num, by omega, by omega, by rw [List.length_append, HBL.out]; rfl, fun _ => by rw [List.length_append, HEL.out hin2]; rfl, HO.out.more (by rw [HBL.out, HEL.out hin2]) ht0 hg.1 (by omega), HX.out⟩
      · rcases HG3.out with ⟨y1, y2⟩ | ⟨y1, y2⟩
        · go_wp2_with fail
          go_roundg (30 - (i + 1))
          case measure => rw [HKK.out]; omega
          case rel => exact ⟨i + 1, t + g + 1, _, _, bs ++ [t], es, by omega, by omega, rfl, rfl, by go_num, by omega, by omega, by rw [List.length_append, HBL.out]; rfl, fun h => absurd h (by simpa using x2), HO.out.last (by rw [HBL.out, HEL.out hin2]) ht0 (by omega), HX.out⟩
        · go_wp2_with fail
          go_roundg (30 - (i + 1))
          case measure => rw [HKK.out]; omega
          case rel => exact ⟨i + 1, t + g, _, _, bs ++ [t], es, by omega, by omega, rfl, rfl, by go_num, by omega, by omega, by rw [List.length_append, HBL.out]; rfl, fun h => absurd h (by simpa using x2), HO.out.last (by rw [HBL.out, HEL.out hin2]) ht0 (by omega), HX.out⟩
    · have hstop : (i < n ∧ decide ((i : Int) < (n : Int)) = true ∧ decide (i < n) = true ∧ decide ((i : Int) < 30) = false ∧ decide (i < 30) = false) ∨ (decide ((i : Int) < (n : Int)) = false ∧ decide (i < n) = false) := by
        by_cases h1 : i < n
        · left; simp; omega
        · right; simp; omega
      have HST := Lib.hid hstop
      clear hstop hlt
      rcases HST.out with ⟨_, x1, x2, x3, x4⟩ | ⟨x1, x2⟩
      all_goals (
        have HX0 := HX
        obtain ⟨r0, r1, s0, s1, hXX⟩ := blk_two HX.out (.slice pb nb kb) (.slice pe ne ke)
        have HXX := Lib.hid hXX
        clear HX hXX HX0
        go_wp2_with fail
        (try simp only [Exit.inBlock, Exit.then])
        refine bodyPost_ret (v := .agg #[.slice pb nb kb, .slice pe ne ke]) ?_ rfl ?_
        · obtain ⟨_, h9, _⟩ := HXX.out.left
          have t0 := (h9.blkAt (i := 0) (by omega)).1
          have t1 := (h9.blkAt (i := 1) (by omega)).1
          rw [show upd (upd (fld (.slice none 0 0) (.slice none 0 0)) 0 (.slice pb nb kb)) 1 (.slice pe ne ke) 0 = .slice pb nb kb from rfl] at t0
          rw [show upd (upd (fld (.slice none 0 0) (.slice none 0 0)) 0 (.slice pb nb kb)) 1 (.slice pe ne ke) 1 = .slice pe ne ke from rfl] at t1
          simp [Go.results, go_sem, t0, t1]
        · exact ⟨_, _, bs, es, t, rfl, HO.out, by omega, by have := HBL.out; omega, Has.fst (A := (Part.u64s (.slice pb nb kb) bs).sep (.u64s (.slice pe ne ke) es)) (Has.swap (HXX.out.swap.fst))⟩)
end Go.Proofs.YtbodobdllchmgaaDoor
