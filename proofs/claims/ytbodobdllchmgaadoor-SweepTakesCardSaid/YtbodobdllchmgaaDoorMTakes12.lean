/- Chains that are laid into a store and into the reference's, side by side: the walk of the statements' own laid.
The walk of the statements' own laid: any chains, as they are read.
Chains of the law that came in, opened to their words. Nothing is claimed of a program's calls here.
A sweep that runs alone: what comes of it, within how many steps. -/
import Derived.Test.YtbodobdllchmgaaDoorMTakes11
import Derived.Test.YtbodobdllchmgaaDoorMTakes10
import Derived.Test.YtbodobdllchmgaaDoorMTakes2
namespace Go.Proofs.YtbodobdllchmgaaDoor
open Go Go.RowKit
set_option linter.unusedVariables false

variable {o : List Nat} {w0 w : World} {b rb : Nat} {A A' : ASt} {rs : Int} {B : Part}

/-- A fresh reference beside a fresh store. -/
theorem two_fresh {ab n : Nat} (h : Has o w0 w (.store b (newSt ab n 0))) : Has o w0 (w.alloc (.cells #[.slice none 0 0, .slice none 0 0, .slice none 0 0, .int .i64 n, .int .i64 0] 73)) (.two b w.heap.size (newSt ab n 0) (newSt ab n 0) 0) := by
  have h1 := h.beside (Has.madeBlk #[.slice none 0 0, .slice none 0 0, .slice none 0 0, .int .i64 n, .int .i64 0] 73 (rfF (.slice none 0 0) (.slice none 0 0) (.slice none 0 0) n 0) 5 rfl (fun i hi => match i, hi with | 0, _ => rfl | 1, _ => rfl | 2, _ => rfl | 3, _ => rfl | 4, _ => rfl))
  have h2 := h1.beside ((Has.rowsNil _ 77 2 (rnF (newSt ab n 0))).beside ((Has.rowsNil _ 82 5 (rvF (newSt ab n 0))).beside (Has.rowsNil _ 146 2 (rtF (newSt ab n 0)))))
  have h3 := h2.assoc
  obtain ⟨o9, h9, _, _, b9⟩ := h3.right
  refine b9 _ _ ?_
  refine Has.rfShutAs (x := ⟨.slice none 0 0, .slice none 0 0, .slice none 0 0⟩) (fr := (n : Int)) h9 ?_
  unfold ASt.free
  rw [newSt_used]
  show (n : Int) = (n : Int) - 0
  omega

/-- Two calls, one behind the other, beside other things: the same answer, and a plain store that is named. -/
def Pair (o : List Nat) (w0 w : World) (b rb : Nat) (A A' : ASt) (rs : Int) (f g : FuncId) (fa ga : Array Value) (v : Value) (B : Part) : Prop :=
  Calls Tryd.prog f fa w (fun e w' => e = .returned v ∧ ∃ st, Has o w0 w' ((Part.two b rb (A'.at st) A rs).sep B)) ∧
    ∀ w1 st, Has o w0 w1 ((Part.two b rb (A'.at st) A rs).sep B) → Calls Tryd.prog g ga w1 (fun e w' => e = .returned v ∧ ∃ rs', Has o w0 w' ((Part.two b rb (A'.at st) (A'.at st) rs').sep B))

theorem pair_mk {f g : FuncId} {fa ga : Array Value} {v : Value} (A' : ASt) (h : Has o w0 w ((Part.two b rb A A rs).sep B))
    (c1 : ∀ o1, Has o1 w w (.store b A) → (∀ y ∈ o1, y ∈ o ∨ w0.heap.size ≤ y) → Calls Tryd.prog f fa w (fun e w' => e = .returned v ∧ ∃ st, Has o1 w w' (.store b (A'.at st))))
    (c2 : ∀ o2 w1, Has o2 w1 w1 (.rstore rb A rs) → Calls Tryd.prog g ga w1 (fun e w' => e = .returned v ∧ ∃ rs', Has o2 w1 w' (.rstore rb A' rs'))) : Pair o w0 w b rb A A' rs f g fa ga v B := by
  refine ⟨?_, fun w1 st h1 => ?_⟩
  · obtain ⟨o1, h1, p1, _, b1⟩ := h.left
    obtain ⟨o2, h2, p2, _, b2⟩ := Has.left (A := .store b A) (B := .rstore rb A rs) h1
    refine (c1 o2 h2 fun y hy => ?_).mono ?_
    · rcases p2 y hy with h5 | h5
      · exact p1 y h5
      · right; have := h.keeps.size; omega
    · rintro e w' ⟨rfl, st, h'⟩
      exact ⟨rfl, st, b1 _ _ (b2 _ _ h')⟩
  · obtain ⟨o1, h2, p1, _, b1⟩ := h1.left
    obtain ⟨o2, h3, p2, _, b2⟩ := Has.right (A := .store b (A'.at st)) (B := .rstore rb A rs) h2
    refine (c2 o2 w1 h3).mono ?_
    rintro e w' ⟨rfl, rs', h'⟩
    exact ⟨rfl, rs', b1 _ _ (b2 _ (.rstore rb (A'.at st) rs') h')⟩

theorem pair_ok (h : Has o w0 w ((Part.two b rb A A' rs).sep B)) : AOk A := by
  obtain ⟨_, h1, _⟩ := h.left
  exact two_ok h1
theorem pair_tab (hT : TabAt w0) (ho : 0 ∉ o) (h : Has o w0 w B) : TabAt w := hT.kept h.keeps ho

theorem pair_node (h : Has o w0 w ((Part.two b rb A A rs).sep B)) (hT : TabAt w0) (ho : 0 ∉ o) (hf : A.used + 2 ≤ A.size) (hN : A.nN ≤ 1000000000) :
    Pair o w0 w b rb A (A.addNode A.steps) rs 30 36 #[P0 b] #[P0 rb] (.tuple #[.int .i64 ((A.nN : Int) + 1), .int .i64 0]) B := by
  have hok := pair_ok h
  refine pair_mk _ h (fun o1 h1 p1 => (node_make h1 (pair_tab hT ho h) (tab_out hT ho p1) hf).mono ?_) (fun o2 w1 h2 => (rnode_make h2 (by unfold ASt.free; omega) hN hok.big A.steps).mono ?_)
  · rintro e w' ⟨rfl, st, h'⟩
    exact ⟨rfl, st, h'⟩
  · rintro e w' ⟨rfl, h'⟩
    exact ⟨rfl, _, h'⟩
theorem pair_version (h : Has o w0 w ((Part.two b rb A A rs).sep B)) (hT : TabAt w0) (ho : 0 ∉ o) (hf : A.used + 3 ≤ A.size) (hV : A.nV ≤ 1000000000) (val : ByteArray) (hval : val.size ≤ 64) (bg nx : Int) (hb0 : 0 ≤ bg) (hb1 : bg < 18446744073709551616) (hbg : wBegins bg = true) (hnx : nx = 0 ∨ A.isV nx = true) :
    Pair o w0 w b rb A (A.addVer A.steps val bg nx) rs 26 37 #[P0 b, .string val, .int .u64 bg, .int .i64 nx] #[P0 rb, .string val, .int .u64 bg, .int .i64 nx] (.tuple #[.int .i64 ((A.nV : Int) + 1), .int .i64 0]) B := by
  have hok := pair_ok h
  refine pair_mk _ h (fun o1 h1 p1 => (version_ok (nxOk_of hnx) h1 (pair_tab hT ho h) (tab_out hT ho p1) hf hval hb0 hb1 hbg hV).mono ?_) (fun o2 w1 h2 => (rversion_make h2 hb0 hb1 hval hbg hnx (by unfold ASt.free; omega) hV hok.big A.steps).mono ?_)
  · rintro e w' ⟨rfl, st, h'⟩
    exact ⟨rfl, st, h'⟩
  · rintro e w' ⟨rfl, h'⟩
    exact ⟨rfl, _, h'⟩
theorem pair_noword (h : Has o w0 w ((Part.two b rb A A rs).sep B)) (val : ByteArray) (hval : val.size ≤ 64) (bg nx : Int) (hb0 : 0 ≤ bg) (hb1 : bg < 18446744073709551616) (hbg : wBegins bg = false) :
    Pair o w0 w b rb A A rs 26 37 #[P0 b, .string val, .int .u64 bg, .int .i64 nx] #[P0 rb, .string val, .int .u64 bg, .int .i64 nx] (.tuple #[.int .i64 0, .int .i64 50]) B := by
  refine pair_mk _ h (fun o1 h1 p1 => (version_word w b val bg hval hb0 hb1 hbg nx).mono ?_) (fun o2 w1 h2 => (rversion_bad h2 val bg nx hb0 hb1 50 (.inr (.inl ⟨hval, hbg, rfl⟩))).mono ?_)
  · rintro e w' ⟨rfl, rfl⟩
    exact ⟨rfl, A.steps, h1⟩
  · rintro e w' ⟨rfl, rfl⟩
    exact ⟨rfl, _, h2⟩

/-- The end that a version gets. -/
def endW (q : Int) : Int := if wOk q = true then q else 1099511627776

theorem pair_end (h : Has o w0 w ((Part.two b rb A A rs).sep B)) (i : Nat) (hi : A.ver i = true) (hN : (A.V i).end_ = 1099511627776) (q : Int) (hq0 : 0 ≤ q) (hq1 : q < 18446744073709551616) :
    ∃ c : Int, Pair o w0 w b rb A (A.set (.end_ i) (endW q)) rs 38 39 #[P0 b, .int .i64 ((i : Int) + 1), .int .u64 q] #[P0 rb, .int .i64 ((i : Int) + 1), .int .u64 q] (.int .i64 c) B := by
  have hv := (some_ofV hi).2.1
  unfold endW
  cases hq : wOk q
  · have e : A.set (.end_ i) 1099511627776 = A := by
      show ({ A with V := fun j => if j = i then { A.V j with end_ := 1099511627776 } else A.V j } : ASt) = A
      have : (fun j => if j = i then { A.V j with end_ := 1099511627776 } else A.V j) = A.V := by
        funext j
        split
        · rename_i h; subst h; rw [← hN]
        · rfl
      rw [this]
    rw [if_neg (by simp), e]
    refine ⟨50, pair_mk _ h (fun o1 h1 p1 => (setEnd_bad h1 i _ q hv hq0 hq1 hq).mono ?_) (fun o2 w1 h2 => (rsetEnd_bad h2 _ q (is_ver hi) hq0 hq1 hq).mono ?_)⟩
    · rintro e w' ⟨rfl, rfl⟩
      exact ⟨rfl, A.steps, h1⟩
    · rintro e w' ⟨rfl, rfl⟩
      exact ⟨rfl, _, h2⟩
  · rw [if_pos rfl]
    refine ⟨0, pair_mk _ h (fun o1 h1 p1 => (setEnd_at h1 i _ q hv hq0 hq1 hq).mono ?_) (fun o2 w1 h2 => (rsetEnd_at h2 i _ q hv hq0 hq1 hq).mono ?_)⟩
    · rintro e w' ⟨rfl, h'⟩
      rw [at_set_step] at h'
      exact ⟨rfl, _, h'⟩
    · rintro e w' ⟨rfl, h'⟩
      exact ⟨rfl, _, h'⟩
theorem pair_push (h : Has o w0 w ((Part.two b rb A A rs).sep B)) (i j : Nat) (nx : Int) (hl : A.at_ (.head i) = some nx) (hnx : nx = 0 ∨ A.isV nx = true) (hj : A.ver j = true) (hV : A.nV ≤ 1000000000) :
    Pair o w0 w b rb A (A.set (.head i) ((j : Int) + 1)) rs 27 40 #[P0 b, .int .i64 ((i : Int) + 1), .int .i64 nx, .int .i64 ((j : Int) + 1)] #[P0 rb, .int .i64 ((i : Int) + 1), .int .i64 nx, .int .i64 ((j : Int) + 1)] (.tuple #[.bool true, .int .i64 0]) B := by
  refine pair_mk _ h (fun o1 h1 p1 => (push_ok h1 i j nx (nxOk_of hnx) hl hj hV).mono ?_) (fun o2 w1 h2 => (rpush_yes h2 i nx _ hl hnx (is_ver hj)).mono ?_)
  · rintro e w' ⟨rfl, h'⟩
    rw [at_set_step] at h'
    exact ⟨rfl, _, h'⟩
  · rintro e w' ⟨rfl, h'⟩
    exact ⟨rfl, _, h'⟩

/-- A version's words. -/
def pr (A : ASt) (v : Nat) : Int × Int := (bgn A v, enn A v)

/-- Chains that were laid: m nodes, what words their versions have. -/
structure LaidAt (A : ASt) (ch : Nat → List Nat) (m : Nat) (W : Nat → List (Int × Int)) : Prop where
  chs : Chs A ch
  nN : A.nN = m
  size : A.size = 4000
  nT : A.nT = 0
  low : ∀ j, m ≤ j → ch j = []
  words : ∀ j, (ch j).map (pr A) = W j

theorem cntB_le (p : Nat → Bool) (n : Nat) : cntB p n ≤ n := by
  induction n with
  | zero => exact Nat.le_refl _
  | succ n ih => unfold cntB; split <;> omega
theorem LaidAt.used {ch : Nat → List Nat} {m : Nat} {W : Nat → List (Int × Int)} (h : LaidAt A ch m W) : A.used ≤ 2 * m + 3 * A.nV := by
  unfold ASt.used
  rw [h.nN, h.nT]
  have := cntB_le (fun i => !(A.V i).gone) A.nV
  show 2 * m + 3 * _ + 0 ≤ _
  omega
theorem LaidAt.at {ch : Nat → List Nat} {m : Nat} {W : Nat → List (Int × Int)} (h : LaidAt A ch m W) (st : Int) : LaidAt (A.at st) ch m W :=
  ⟨h.chs.at st, h.nN, h.size, h.nT, h.low, h.words⟩
theorem LaidAt.low' {ch : Nat → List Nat} {i : Nat} {c : Nat → List (Int × Int)} (h : LaidAt A ch (i + 1) c) (hc : c i = []) : ch i = [] := by
  have := h.words i
  rw [hc] at this
  exact List.map_eq_nil_iff.1 this
theorem LaidAt.new (ab : Nat) : LaidAt (newSt ab 4000 0) (fun _ => []) 0 (fun _ => []) :=
  ⟨⟨fun i hi => by exact absurd hi (Nat.not_lt_zero i), fun i hi => trivial, fun i j hi => by exact absurd hi (Nat.not_lt_zero i), fun i hi => by
    have : (newSt ab 4000 0).ver i = false := by unfold ASt.ver newSt; simp
    rw [this] at hi; cases hi⟩, rfl, rfl, rfl, fun _ _ => rfl, fun _ => rfl⟩
theorem LaidAt.node {ch : Nat → List Nat} {m : Nat} {W : Nat → List (Int × Int)} (h : LaidAt A ch m W) (st : Int) : LaidAt (A.addNode st) ch (m + 1) W := by
  have hlow := h.low m (Nat.le_refl _)
  have keep : ∀ l, Linked A l → Linked (A.addNode st) l := fun l hl => hl.keep fun u _ => ⟨rfl, rfl⟩
  refine ⟨⟨fun i hi => ?_, fun i hi => ?_, fun i j hi hj hne => ?_, h.chs.down⟩, by show A.nN + 1 = m + 1; rw [h.nN], h.size, h.nT, fun j hj => h.low j (by omega), h.words⟩
  · show ((if i = A.nN then ((0 : Int), (0 : Int)) else A.N i)).1 = _
    by_cases e : i = A.nN
    · rw [if_pos e, e, h.nN, hlow]; rfl
    · rw [if_neg e]
      have : i < A.nN + 1 := hi
      exact h.chs.head i (by omega)
  · by_cases e : i = A.nN
    · rw [e, h.nN, hlow]; trivial
    · have : i < A.nN + 1 := hi
      exact keep _ (h.chs.link i (by omega))
  · have hi' : i < A.nN + 1 := hi
    have hj' : j < A.nN + 1 := hj
    by_cases e : i = A.nN
    · rw [e, h.nN, hlow]; intro v hv; simp at hv
    · by_cases e2 : j = A.nN
      · rw [e2, h.nN, hlow]; intro v hv hv'; simp at hv'
      · exact h.chs.apart i j (by omega) (by omega) hne

def updW (W : Nat → List (Int × Int)) (i : Nat) (l : List (Int × Int)) : Nat → List (Int × Int) := fun j => if j = i then l else W j

/-- Another version is laid ahead of a node's chain. -/
theorem LaidAt.push {ch : Nat → List Nat} {m : Nat} {W : Nat → List (Int × Int)} (h : LaidAt A ch m W) {i : Nat} (hi : i < m) (st : Int) (val : ByteArray) (bg q : Int) :
    LaidAt (((A.addVer st val bg (hd (ch i))).set (.end_ A.nV) q).set (.head i) ((A.nV : Int) + 1)) (updL ch i ((A.nV + 1) :: ch i)) m (updW W i ((bg, q) :: W i)) := by
  have hiN : i < A.nN := by rw [h.nN]; exact hi
  have hmem : ∀ j, j < A.nN → ∀ v ∈ ch j, 1 ≤ v ∧ v ≤ A.nV := fun j hj v hv => by
    obtain ⟨h1, h2⟩ := (h.chs.link j hj).mem v hv
    have := ver_lt h2
    exact ⟨h1, by omega⟩
  have hle : hd (ch i) ≤ A.nV := by
    cases hc : ch i with
    | nil => show (0 : Int) ≤ _; omega
    | cons v l =>
      have := (hmem i hiN v (by rw [hc]; simp)).2
      show (v : Int) ≤ _; omega
  have hnew := addVer_new A st val bg (hd (ch i))
  have h1 := h.chs.more st val bg (hd (ch i)) hle
  have h2 := h1.setEnd A.nV q
  have hv1 : ((A.addVer st val bg (hd (ch i))).set (.end_ A.nV) q).ver A.nV = true := by rw [ASt.ver_set]; exact hnew.1
  have hVn : ((A.addVer st val bg (hd (ch i))).set (.end_ A.nV) q).V A.nV = ⟨val, bg, q, hd (ch i), false⟩ := by
    show (if A.nV = A.nV then { (A.addVer st val bg (hd (ch i))).V A.nV with end_ := q } else _) = _
    rw [if_pos rfl]
    show ({ (if A.nV = A.nV then (⟨val, bg, 1099511627776, hd (ch i), false⟩ : AVer) else A.V A.nV) with end_ := q } : AVer) = _
    rw [if_pos rfl]
  have hVo : ∀ j, j ≠ A.nV → ((A.addVer st val bg (hd (ch i))).set (.end_ A.nV) q).V j = A.V j := fun j hj => by
    show (if j = A.nV then _ else (if j = A.nV then _ else A.V j)) = _
    rw [if_neg hj, if_neg hj]
  have h3 := h2.push (i := i) (v := A.nV + 1) hiN (by omega) (by rw [show A.nV + 1 - 1 = A.nV by omega]; exact hv1) (by rw [show A.nV + 1 - 1 = A.nV by omega, hVn]) (fun j hj hm => by have := (hmem j hj _ hm).2; omega)
  refine ⟨h3, h.nN, h.size, h.nT, fun j hj => ?_, fun j => ?_⟩
  · unfold updL; rw [if_neg (by omega)]; exact h.low j hj
  · have hpr : ∀ v, v ≠ A.nV + 1 → 1 ≤ v → pr (((A.addVer st val bg (hd (ch i))).set (.end_ A.nV) q).set (.head i) ((A.nV : Int) + 1)) v = pr A v := fun v hv hv1 => by
      have e : v - 1 ≠ A.nV := by omega
      have := hVo (v - 1) e
      unfold pr bgn enn
      show ((((A.addVer st val bg (hd (ch i))).set (.end_ A.nV) q).V (v - 1)).begin_, (((A.addVer st val bg (hd (ch i))).set (.end_ A.nV) q).V (v - 1)).end_) = _
      rw [this]
    have hold : ∀ j, (ch j).map (pr (((A.addVer st val bg (hd (ch i))).set (.end_ A.nV) q).set (.head i) ((A.nV : Int) + 1))) = W j := fun j => by
      rw [← h.words j]
      refine List.map_congr_left fun v hv => ?_
      by_cases hj : j < A.nN
      · have := hmem j hj v hv
        exact hpr v (by omega) this.1
      · rw [h.low j (by rw [← h.nN]; omega)] at hv; simp at hv
    unfold updL updW
    by_cases e : j = i
    · rw [if_pos e, if_pos e, List.map_cons, hold i]
      congr 1
      unfold pr bgn enn
      show ((((A.addVer st val bg (hd (ch i))).set (.end_ A.nV) q).V (A.nV + 1 - 1)).begin_, (((A.addVer st val bg (hd (ch i))).set (.end_ A.nV) q).V (A.nV + 1 - 1)).end_) = _
      rw [show A.nV + 1 - 1 = A.nV by omega, hVn]
    · rw [if_neg e, if_neg e]; exact hold j
end Go.Proofs.YtbodobdllchmgaaDoor
namespace Go.Proofs.YtbodobdllchmgaaDoor
open Go Go.RowKit
set_option linter.unusedVariables false

/-- Five results. -/
theorem results_tmp5 {fn : Func} {t u v x y : Tmp} (h : fn.results = #[.tmp t, .tmp u, .tmp v, .tmp x, .tmp y]) (tmps : Array Value) (P : Program) (w : World) :
    (Go.results fn tmps).run P w = .ok (.tuple #[tmps.getD t undef, tmps.getD u undef, tmps.getD v undef, tmps.getD x undef, tmps.getD y undef]) w := by
  simp [Go.results, h, Sem.run_pure]

/-- A chain's words, as they came. -/
structure CV where
  pb : Option Addr
  nb : Nat
  cb : Nat
  zb : Nat → Int
  pe : Option Addr
  ne : Nat
  ce : Nat
  ze : Nat → Int

/-- Chains that can be read. -/
def ChIn (w : World) (p : Option Addr) (n : Nat) (c : Nat → CV) : Prop :=
  0 < n → ∃ g off, p = some ⟨g, off, none⟩ ∧ ∀ i, i < n → w.cell? ⟨g, off + i * 2, none⟩ = some (.slice (c i).pb (c i).nb (c i).cb) ∧ w.cell? ⟨g, off + i * 2 + 1, none⟩ = some (.slice (c i).pe (c i).ne (c i).ce) ∧
    WRow w (c i).pb (c i).nb (c i).cb (c i).zb ∧ WRow w (c i).pe (c i).ne (c i).ce (c i).ze
theorem ChIn.kept {w w' : World} {p : Option Addr} {n : Nat} {c : Nat → CV} (h : ChIn w p n c) (k : Kept [] w w') : ChIn w' p n c := by
  intro h0
  obtain ⟨g, off, e, hc⟩ := h h0
  exact ⟨g, off, e, fun i hi => ⟨k.cell (hc i hi).1 (by simp), k.cell (hc i hi).2.1 (by simp), (hc i hi).2.2.1.kept k, (hc i hi).2.2.2.kept k⟩⟩

/-- The words of a chain that is laid, the newest first. -/
def wds (zb ze : Nat → Int) (ne : Nat) : Nat → List (Int × Int)
  | 0 => []
  | k + 1 => if wBegins (zb k) = true then (zb k, if k < ne then endW (ze k) else 1099511627776) :: wds zb ze ne k else wds zb ze ne k
def to30 (n : Nat) : Nat := if n < 30 then n else 30
def WL (c : Nat → CV) (m : Nat) (j : Nat) : List (Int × Int) := if j < m then wds (c j).zb (c j).ze (c j).ne (to30 (c j).nb) else []
def nodesL (m : Nat) : List Int := (List.range m).map fun j : Nat => (j : Int) + 1

theorem WL_succ (c : Nat → CV) (i : Nat) : updW (WL c i) i (wds (c i).zb (c i).ze (c i).ne (to30 (c i).nb)) = WL c (i + 1) := by
  funext j
  unfold updW WL
  by_cases e : j = i
  · subst e; rw [if_pos rfl, if_pos (by omega)]
  · rw [if_neg e]
    by_cases h : j < i
    · rw [if_pos h, if_pos (by omega)]
    · rw [if_neg h, if_neg (by omega)]
theorem WL_zero (c : Nat → CV) (i : Nat) : updW (WL c i) i [] = WL c i := by
  funext j
  unfold updW WL
  by_cases e : j = i
  · subst e; rw [if_pos rfl, if_neg (by omega)]
  · rw [if_neg e]
theorem WL_none (c : Nat → CV) : WL c 0 = fun _ => [] := by
  funext j; unfold WL; rw [if_neg (by omega)]
theorem updW_updW (W : Nat → List (Int × Int)) (i : Nat) (a b : List (Int × Int)) : updW (updW W i a) i b = updW W i b := by
  funext j; unfold updW; split <;> rfl
theorem nodesL_succ (m : Nat) : nodesL (m + 1) = nodesL m ++ [(m : Int) + 1] := by unfold nodesL; rw [List.range_succ, List.map_append]; rfl
theorem nodesL_len (m : Nat) : (nodesL m).length = m := by unfold nodesL; simp

theorem end_same (A : ASt) (st : Int) (val : ByteArray) (bg nx : Int) : (A.addVer st val bg nx).set (.end_ A.nV) 1099511627776 = A.addVer st val bg nx := by
  show ({ A.addVer st val bg nx with V := fun j => if j = A.nV then { (A.addVer st val bg nx).V j with end_ := 1099511627776 } else (A.addVer st val bg nx).V j } : ASt) = A.addVer st val bg nx
  have : (fun j => if j = A.nV then { (A.addVer st val bg nx).V j with end_ := 1099511627776 } else (A.addVer st val bg nx).V j) = (A.addVer st val bg nx).V := by
    funext j
    by_cases e : j = A.nV
    · subst e
      rw [if_pos rfl]
      show ({ (if A.nV = A.nV then (⟨val, bg, 1099511627776, nx, false⟩ : AVer) else A.V A.nV) with end_ := 1099511627776 } : AVer) = (if A.nV = A.nV then (⟨val, bg, 1099511627776, nx, false⟩ : AVer) else A.V A.nV)
      rw [if_pos rfl]
    · rw [if_neg e]
  rw [this]

variable {w : World} {b rb : Nat} {A : ASt} {rs : Int}

theorem laid_last {ch : Nat → List Nat} {m : Nat} {W : Nat → List (Int × Int)} (h : LaidAt A ch m W) {i : Nat} (hi : i < m) : (hd (ch i) = 0 ∨ A.isV (hd (ch i)) = true) ∧ A.at_ (.head i) = some (hd (ch i)) := by
  have hiN : i < A.nN := by rw [h.nN]; exact hi
  refine ⟨?_, by rw [(some_of hiN).1, h.chs.head i hiN]⟩
  cases hc : ch i with
  | nil => exact .inl rfl
  | cons v l =>
    right
    have := h.chs.link i hiN
    rw [hc] at this
    have e : hd (v :: l) = ((v - 1 : Nat) : Int) + 1 := by show (v : Int) = _; have := this.1; omega
    rw [e]
    exact is_ver this.2.1

theorem ints_append {o : List Nat} {w0 w w5 : World} {B : Part} {v v' : Value} {l : List Int} {x : Int} (ob : Obj) (h : Has o w0 w (B.sep (.ints v l))) (happ : Appended (w.alloc ob) w5 3 1 v v' (l.length + 1) (l.map (Value.int .i64) ++ [.int .i64 x])) :
    Has o w0 w5 (B.sep (.ints v' (l ++ [x]))) := by
  obtain ⟨o1, h1, _, _, b1⟩ := h.right
  refine b1 w5 (.ints v' (l ++ [x])) ?_
  have := h1.appendRow (m := 1) (news := [.int .i64 x]) ob happ
  unfold Part.ints
  rw [List.length_append, List.map_append]
  exact this

theorem updW_cons (X : Nat → List (Int × Int)) (i : Nat) (a : List (Int × Int)) (q : Int × Int) : updW (updW X i a) i (q :: updW X i a i) = updW X i (q :: a) := by
  rw [updW_updW]
  congr 2
  unfold updW; rw [if_pos rfl]
theorem wds_yes {zb ze : Nat → Int} {ne v : Nat} (h : wBegins (zb v) = true) : wds zb ze ne (v + 1) = (zb v, if v < ne then endW (ze v) else 1099511627776) :: wds zb ze ne v := by
  rw [wds, if_pos h]
theorem wds_no {zb ze : Nat → Int} {ne v : Nat} (h : wBegins (zb v) = false) : wds zb ze ne (v + 1) = wds zb ze ne v := by
  rw [wds, if_neg (by simp [h])]
theorem isV_addVer {A : ASt} {n : Int} (st : Int) (val : ByteArray) (bg nx : Int) (h : A.isV n = true) : (A.addVer st val bg nx).isV n = true := by
  obtain ⟨j, rfl, hj⟩ := isV_at h
  have hlt := ver_lt hj
  have : (A.addVer st val bg nx).ver j = true := by
    unfold ASt.ver at hj ⊢
    have e : (A.addVer st val bg nx).V j = A.V j := by show (if j = A.nV then _ else A.V j) = _; rw [if_neg (by omega)]
    rw [e]
    simp only [Bool.and_eq_true, decide_eq_true_eq] at hj ⊢
    exact ⟨by show j < A.nV + 1; omega, hj.2⟩
  exact is_ver this
theorem isV_set (A : ASt) (l : Loc) (q n : Int) : (A.set l q).isV n = A.isV n := by
  unfold ASt.isV; rw [A.ver_set]

/-- What laid leaves. -/
def LaidOut (w w' : World) (b ab rb : Nat) (nv : Value) (n : Nat) (c : Nat → CV) : Prop :=
  ∃ (A : ASt) (ch : Nat → List Nat) (rs : Int) (m : Nat), m = (if n < 20 then n else 20) ∧ A.ab = ab ∧ LaidAt A ch m (WL c m) ∧ A.nV ≤ 30 * m ∧ Has [] w w' ((Part.two b rb A A rs).sep (.ints nv (nodesL m)))

set_option maxHeartbeats 16000000 in
set_option maxRecDepth 100000 in
theorem laid_walk (w : World) (hT : TabAt w) (p : Option Addr) (n cap : Nat) (c : Nat → CV) (hin : ChIn w p n c) (hn : n ≤ 9000000000000000000) :
    Calls Tryd.prog 17 #[.slice p n cap] w fun e w' => ∃ b ab rb nv, e = .returned (.tuple #[P0 b, P0 ab, P0 rb, nv, .bool true]) ∧ LaidOut w w' b ab rb nv n c := by
  have HT := Lib.hid hT
  have HIN := Lib.hid hin
  obtain ⟨i0, hi0, hz0, hz1, hz2⟩ := info_parts info_int
  clear hT hin
  go_enter Tryd.func17, Tryd.ntmps17
  go_wp2_with fail
  refine (new_both w w (Kept.refl _ _) 4000 (by omega) (by omega)).mono ?_
  rintro e w1 ⟨ab, rfl, hA⟩
  have HA := Lib.hid hA
  clear hA
  go_wp2_with fail
  refine (new_store (by omega) HA.out).mono ?_
  rintro e w2 ⟨b, rfl, hX⟩
  have HX := Lib.hid ((two_fresh hX).beside (Has.nilInts _))
  generalize hrb : w2.heap.size = rb at *
  clear hX HA
  go_wp2_with fail
  go_loopg [12, 13] 20 (fun k nv iv wr => ∃ (i : Nat) (A : ASt) (ch : Nat → List Nat) (rs : Int), i ≤ n ∧ i ≤ 20 ∧ k = 20 - i ∧ iv = .int .i64 i ∧ LaidAt A ch i (WL c i) ∧ A.nV ≤ 30 * i ∧ A.ab = ab ∧ Has [] w wr ((Part.two b rb A A rs).sep (.ints nv (nodesL i))))
  case atStart => exact ⟨0, _, _, 0, Nat.zero_le _, Nat.zero_le _, rfl, rfl, by rw [WL_none]; exact LaidAt.new ab, Nat.zero_le _, rfl, HX.out⟩
  case round =>
    clear HX
    obtain ⟨i, A, ch, rs, hi, hi20, hk, rfl, hL, hV, hab, hX⟩ := hrel
    have HKK := Lib.hid hk
    have HL := Lib.hid hL
    have HV := Lib.hid hV
    have HAB := Lib.hid hab
    have HX := Lib.hid hX
    clear hk hL hV hab hX
    by_cases hlt : i < n ∧ i < 20
    · obtain ⟨hin, hi2⟩ := hlt
      have d1 : decide ((i : Int) < (n : Int)) = true := by simp; omega
      have d1' : decide (i < n) = true := by simp; omega
      have d2 : decide ((i : Int) < 20) = true := by simp; omega
      have d2' : decide (i < 20) = true := by simp; omega
      obtain ⟨PN1, PN2⟩ := pair_node HX.out HT.out tab_nil (by have h1 := HL.out.used; have h2 := HV.out; have h3 := HL.out.size; omega) (by rw [HL.out.nN]; omega)
      rw [HL.out.nN] at PN1 PN2
      have HP1 := Lib.hid PN1
      have HP2 := Lib.hid PN2
      clear PN1 PN2 HX
      go_wp2_with fail
      refine HP1.out.mono ?_
      rintro e w3 ⟨rfl, st3, hX⟩
      have HP := Lib.hid (HP2.out _ _ hX)
      clear hX HP1 HP2
      go_wp2_with fail
      refine HP.out.mono ?_
      rintro e w4 ⟨rfl, rs4, hX⟩
      have HX := Lib.hid hX
      have hL2 := (HL.out.node A.steps).at st3
      have hV2 : ((A.addNode A.steps).at st3).nV ≤ 30 * i := HV.out
      have hab2 : ((A.addNode A.steps).at st3).ab = ab := HAB.out
      generalize (A.addNode A.steps).at st3 = A4 at *
      have HL2 := Lib.hid hL2
      have HV2 := Lib.hid hV2
      have HAB2 := Lib.hid hab2
      obtain ⟨o3, h3, _⟩ := hX.right
      obtain ⟨np, nc, hnv⟩ := ap_ints h3
      have HROW := Lib.hid (ap_row (h3.alloc (.cells #[.int .i64 ((i : Int) + 1)] 3)))
      subst hnv
      clear hX h3 HP HL HV HAB hL2 hV2 hab2
      go_wp2_with (at_builtin; refine wpList_append_new rfl (.tmp 58) (.tmp 60) 22 rfl 3 i0 (.int .i64 0) 1 8 Tryd.underlying22 hi0 hz0 hz1 hz2 rfl (by decide) _ _ _ rfl HROW.out ⟨w4.heap.size, 0, none⟩ 1 1 [.int .i64 ((i : Int) + 1)] rfl rfl (cell_one w4 w4.heap.size _ _ rfl) (by intro u hu; simp at hu; subst hu; rfl) (by simp only [maxLen, nodesL_len]; omega) (by simp only [nodesL_len]; omega) ?_)
      intro v' w5 happ
      have hX := ints_append _ HX.out happ
      rw [← nodesL_succ] at hX
      have HX5 := Lib.hid hX
      clear happ hX HX
      obtain ⟨g, off, rfl, hcc⟩ := HIN.out (by omega)
      have HCH := Lib.hid (hcc i hin)
      have HCC := Lib.hid hcc
      clear hcc
      go_wp2_with fail
      go_loopg [16, 17] 30 (fun r lv vv wx => ∃ (v : Nat) (A : ASt) (ch : Nat → List Nat) (rs : Int), v ≤ (c i).nb ∧ v ≤ 30 ∧ r = 30 - v ∧ lv = .int .i64 (hd (ch i)) ∧ vv = .int .i64 v ∧ LaidAt A ch (i + 1) (updW (WL c i) i (wds (c i).zb (c i).ze (c i).ne v)) ∧ A.nV ≤ 30 * i + v ∧ A.ab = ab ∧ Has [] w wx ((Part.two b rb A A rs).sep (.ints v' (nodesL (i + 1)))))
      case atStart => exact ⟨0, A4, ch, _, Nat.zero_le _, Nat.zero_le _, rfl, by rw [HL2.out.low' (by unfold WL; rw [if_neg (Nat.lt_irrefl i)])]; rfl, rfl, by unfold wds; rw [WL_zero]; exact HL2.out, HV2.out, HAB2.out, HX5.out⟩
      case round =>
        clear HX5 HL2 HV2 HAB2
        obtain ⟨v, A, ch, rs, hv, hv30, hr5, rfl, rfl, hL, hV, hab, hX⟩ := hrel
        have HKR := Lib.hid hr5
        have HL := Lib.hid hL
        have HV := Lib.hid hV
        have HAB := Lib.hid hab
        have HX := Lib.hid hX
        obtain ⟨k1, k2, rb1, re1⟩ := HCH.out
        have c1 := hX.keeps.cell k1 (by simp)
        have c2 := hX.keeps.cell k2 (by simp)
        have q1 : 0 ≤ (i : Int) ∧ (i : Int) < (n : Int) := by omega
        have RB := Lib.hid (rb1.kept hX.keeps)
        have RE := Lib.hid (re1.kept hX.keeps)
        have m9 : (c i).nb ≤ 9223372036854775807 := Nat.le_trans (Nat.le_trans rb1.le rb1.max) (by decide)
        have m8 : (c i).ne ≤ 9223372036854775807 := Nat.le_trans (Nat.le_trans re1.le re1.max) (by decide)
        clear hr5 hL hV hab hX k1 k2 rb1 re1
        by_cases hvk : v < (c i).nb ∧ v < 30
        · obtain ⟨hvn, hv3⟩ := hvk
          have g1 : decide ((v : Int) < ((c i).nb : Int)) = true := by simp; omega
          have g1' : decide (v < (c i).nb) = true := by simp; omega
          have g2 : decide ((v : Int) < 30) = true := by simp; omega
          have g2' : decide (v < 30) = true := by simp; omega
          obtain ⟨b1, o1, eb, _, hc1⟩ := RB.out.cell (by omega)
          have x1 := hc1 v hvn
          obtain ⟨z0, z1⟩ := RB.out.rng v hvn
          rw [eb] at c1
          have q2 : 0 ≤ (v : Int) ∧ (v : Int) < ((c i).nb : Int) := by omega
          obtain ⟨l1, l2⟩ := laid_last HL.out (i := i) (by omega)
          have HL1 := Lib.hid l1
          have HL2 := Lib.hid l2
          clear hc1 eb l1 l2
          cases hbg : wBegins ((c i).zb v)
          · obtain ⟨PV1, PV2⟩ := pair_noword HX.out ⟨#[118]⟩ (by decide) ((c i).zb v) (hd (ch i)) z0 z1 hbg
            have HP1 := Lib.hid PV1
            have HP2 := Lib.hid PV2
            have HBG := Lib.hid hbg
            clear PV1 PV2 HX hbg
            go_wp2_with fail
            refine HP1.out.mono ?_
            rintro e w6 ⟨rfl, st6, hX⟩
            have y1 := hX.keeps.cell HCH.out.1 (by simp)
            obtain ⟨b6, o6, eb6, _, hc6⟩ := (HCH.out.2.2.1.kept hX.keeps).cell (by omega)
            have y2 := hc6 v hvn
            rw [eb6] at y1
            have HP := Lib.hid (HP2.out _ _ hX)
            clear hX HP1 HP2 c1 c2 x1 hc6 eb6
            go_wp2_with fail
            refine HP.out.mono ?_
            rintro e w7 ⟨rfl, rs7, hX⟩
            have HX7 := Lib.hid hX
            clear hX HP y1 y2
            go_wp2_with fail
            go_roundg (30 - (v + 1))
            case measure => rw [HKR.out]; omega
            case rel => exact ⟨v + 1, A.at st6, ch, rs7, by omega, by omega, rfl, rfl, by go_num, by rw [wds_no HBG.out]; exact HL.out.at st6, by have := HV.out; show A.nV ≤ _; omega, HAB.out, HX7.out⟩
          · obtain ⟨PV1, PV2⟩ := pair_version HX.out HT.out tab_nil (by have h1 := HL.out.used; have h2 := HV.out; have h3 := HL.out.size; omega) (by have := HV.out; omega) ⟨#[118]⟩ (by decide) ((c i).zb v) (hd (ch i)) z0 z1 hbg HL1.out
            have HP1 := Lib.hid PV1
            have HP2 := Lib.hid PV2
            have HBG := Lib.hid hbg
            clear PV1 PV2 HX hbg
            go_wp2_with fail
            refine HP1.out.mono ?_
            rintro e w6 ⟨rfl, st6, hX⟩
            have y1 := hX.keeps.cell HCH.out.1 (by simp)
            obtain ⟨b6, o6, eb6, _, hc6⟩ := (HCH.out.2.2.1.kept hX.keeps).cell (by omega)
            have y2 := hc6 v hvn
            rw [eb6] at y1
            have HP := Lib.hid (HP2.out _ _ hX)
            clear hX HP1 HP2 c1 c2 x1 hc6 eb6
            go_wp2_with fail
            refine HP.out.mono ?_
            rintro e w7 ⟨rfl, rs7, hX⟩
            have y3 := hX.keeps.cell HCH.out.2.1 (by simp)
            have RE7 := Lib.hid (HCH.out.2.2.2.kept hX.keeps)
            have HNW := Lib.hid (addVer_new A A.steps ⟨#[118]⟩ ((c i).zb v) (hd (ch i)))
            have HX7 := Lib.hid hX
            clear hX HP y1 y2
            by_cases hve : v < (c i).ne
            · have e1 : decide ((v : Int) < ((c i).ne : Int)) = true := by simp; omega
              have e1' : decide (v < (c i).ne) = true := by simp; omega
              have q3 : 0 ≤ (v : Int) ∧ (v : Int) < ((c i).ne : Int) := by omega
              obtain ⟨b7, o7, eb7, _, hc7⟩ := RE7.out.cell (by omega)
              have y4 := hc7 v hve
              obtain ⟨t0, t1⟩ := RE7.out.rng v hve
              rw [eb7] at y3
              have hend : (((A.addVer A.steps ⟨#[118]⟩ ((c i).zb v) (hd (ch i))).at st6).V A.nV).end_ = 1099511627776 := by
                show ((if A.nV = A.nV then (⟨⟨#[118]⟩, (c i).zb v, 1099511627776, hd (ch i), false⟩ : AVer) else A.V A.nV)).end_ = _
                rw [if_pos rfl]
              obtain ⟨ce7, PE1, PE2⟩ := pair_end HX7.out A.nV HNW.out.1 hend ((c i).ze v) t0 t1
              have HE1 := Lib.hid PE1
              have HE2 := Lib.hid PE2
              clear PE1 PE2 HX7 hc7 eb7 hend
              go_wp2_with fail
              refine HE1.out.mono ?_
              rintro e w10 ⟨rfl, st10, hX⟩
              have y5 := hX.keeps.cell HCH.out.2.1 (by simp)
              obtain ⟨b8, o8, eb8, _, hc8⟩ := (HCH.out.2.2.2.kept hX.keeps).cell (by omega)
              have y6 := hc8 v hve
              rw [eb8] at y5
              have HE := Lib.hid (HE2.out _ _ hX)
              clear hX HE1 HE2 y3 y4 hc8 eb8
              go_wp2_with fail
              refine HE.out.mono ?_
              rintro e w11 ⟨rfl, rs11, hX⟩
              have HXP := Lib.hid hX
              have HLH := Lib.hid (show ((((A.addVer A.steps ⟨#[118]⟩ ((c i).zb v) (hd (ch i))).at st6).set (.end_ A.nV) (endW ((c i).ze v))).at st10).at_ (.head i) = some (hd (ch i)) from HL2.out)
              have HLV := Lib.hid (show hd (ch i) = 0 ∨ ((((A.addVer A.steps ⟨#[118]⟩ ((c i).zb v) (hd (ch i))).at st6).set (.end_ A.nV) (endW ((c i).ze v))).at st10).isV (hd (ch i)) = true from HL1.out.imp id fun h => (isV_set _ _ _ _).trans (isV_addVer _ _ _ _ h))
              have HVN := Lib.hid (show ((((A.addVer A.steps ⟨#[118]⟩ ((c i).zb v) (hd (ch i))).at st6).set (.end_ A.nV) (endW ((c i).ze v))).at st10).ver A.nV = true from (ASt.ver_set _ _ _ _).trans HNW.out.1)
              have HLF := Lib.hid (fun st8 => show LaidAt ((((((A.addVer A.steps ⟨#[118]⟩ ((c i).zb v) (hd (ch i))).at st6).set (.end_ A.nV) (endW ((c i).ze v))).at st10).set (.head i) ((A.nV : Int) + 1)).at st8) (updL ch i ((A.nV + 1) :: ch i)) (i + 1) (updW (WL c i) i (wds (c i).zb (c i).ze (c i).ne (v + 1))) from by
                have := (HL.out.push (i := i) (by omega) A.steps ⟨#[118]⟩ ((c i).zb v) (endW ((c i).ze v))).at st8
                rw [updW_cons] at this
                rw [wds_yes HBG.out, if_pos hve]
                exact this)
              clear hX HE y5 y6
              have HPU := Lib.hid (pair_push HXP.out i A.nV (hd (ch i)) HLH.out HLV.out HVN.out (by show A.nV + 1 ≤ _; have := HV.out; omega))
              have HPU1 := Lib.hid HPU.out.1
              clear HXP
              go_wp2_with fail
              refine HPU1.out.mono ?_
              rintro e w8 ⟨rfl, st8, hX⟩
              have HPU2 := Lib.hid (HPU.out.2 _ _ hX)
              clear hX HPU HPU1
              go_wp2_with fail
              refine HPU2.out.mono ?_
              rintro e w9 ⟨rfl, rs9, hX⟩
              have HX9 := Lib.hid hX
              clear hX HPU2
              go_wp2_with fail
              go_roundg (30 - (v + 1))
              case measure => rw [HKR.out]; omega
              case rel => exact ⟨v + 1, _, updL ch i ((A.nV + 1) :: ch i), rs9, by omega, by omega, rfl, by unfold updL; rw [if_pos rfl]; rfl, by go_num, HLF.out st8, by show A.nV + 1 ≤ _; have := HV.out; omega, HAB.out, HX9.out⟩
            · have e1 : decide ((v : Int) < ((c i).ne : Int)) = false := by simp; omega
              have e1' : decide (v < (c i).ne) = false := by simp; omega
              have HXP := Lib.hid HX7.out
              have HLH := Lib.hid (show ((A.addVer A.steps ⟨#[118]⟩ ((c i).zb v) (hd (ch i))).at st6).at_ (.head i) = some (hd (ch i)) from HL2.out)
              have HLV := Lib.hid (show hd (ch i) = 0 ∨ ((A.addVer A.steps ⟨#[118]⟩ ((c i).zb v) (hd (ch i))).at st6).isV (hd (ch i)) = true from HL1.out.imp id fun h => (isV_addVer _ _ _ _ h))
              have HVN := Lib.hid (show ((A.addVer A.steps ⟨#[118]⟩ ((c i).zb v) (hd (ch i))).at st6).ver A.nV = true from HNW.out.1)
              have HLF := Lib.hid (fun st8 => show LaidAt ((((A.addVer A.steps ⟨#[118]⟩ ((c i).zb v) (hd (ch i))).at st6).set (.head i) ((A.nV : Int) + 1)).at st8) (updL ch i ((A.nV + 1) :: ch i)) (i + 1) (updW (WL c i) i (wds (c i).zb (c i).ze (c i).ne (v + 1))) from by
                have := (HL.out.push (i := i) (by omega) A.steps ⟨#[118]⟩ ((c i).zb v) 1099511627776).at st8
                rw [updW_cons, end_same] at this
                rw [wds_yes HBG.out, if_neg hve]
                exact this)
              clear HX7
              have HPU := Lib.hid (pair_push HXP.out i A.nV (hd (ch i)) HLH.out HLV.out HVN.out (by show A.nV + 1 ≤ _; have := HV.out; omega))
              have HPU1 := Lib.hid HPU.out.1
              clear HXP
              go_wp2_with fail
              refine HPU1.out.mono ?_
              rintro e w8 ⟨rfl, st8, hX⟩
              have HPU2 := Lib.hid (HPU.out.2 _ _ hX)
              clear hX HPU HPU1
              go_wp2_with fail
              refine HPU2.out.mono ?_
              rintro e w9 ⟨rfl, rs9, hX⟩
              have HX9 := Lib.hid hX
              clear hX HPU2
              go_wp2_with fail
              go_roundg (30 - (v + 1))
              case measure => rw [HKR.out]; omega
              case rel => exact ⟨v + 1, _, updL ch i ((A.nV + 1) :: ch i), rs9, by omega, by omega, rfl, by unfold updL; rw [if_pos rfl]; rfl, by go_num, HLF.out st8, by show A.nV + 1 ≤ _; have := HV.out; omega, HAB.out, HX9.out⟩
        · have hstop : (v < (c i).nb ∧ decide ((v : Int) < ((c i).nb : Int)) = true ∧ decide (v < (c i).nb) = true ∧ decide ((v : Int) < 30) = false ∧ decide (v < 30) = false ∧ v = to30 (c i).nb) ∨ (decide ((v : Int) < ((c i).nb : Int)) = false ∧ decide (v < (c i).nb) = false ∧ v = to30 (c i).nb) := by
            unfold to30
            by_cases h1 : v < (c i).nb
            · left; rw [if_neg (by omega)]; simp; omega
            · right; simp; split <;> omega
          have HST := Lib.hid hstop
          have HVE := Lib.hid (show v = to30 (c i).nb from hstop.elim (fun h => h.2.2.2.2.2) (fun h => h.2.2))
          clear hstop
          rcases HST.out with ⟨_, x1, x2, x3, x4, xx⟩ | ⟨x1, x2, xx⟩
          all_goals (
            clear xx
            go_wp2_with fail
            go_roundg (20 - (i + 1))
            case measure => rw [HKK.out]; omega
            case rel => exact ⟨i + 1, A, ch, rs, by omega, by omega, rfl, by go_num, by have h := HL.out; rw [HVE.out, WL_succ] at h; exact h, by have := HV.out; omega, HAB.out, HX.out⟩)
    · have hstop : (i < n ∧ decide ((i : Int) < (n : Int)) = true ∧ decide (i < n) = true ∧ decide ((i : Int) < 20) = false ∧ decide (i < 20) = false ∧ i = (if n < 20 then n else 20)) ∨ (decide ((i : Int) < (n : Int)) = false ∧ decide (i < n) = false ∧ i = (if n < 20 then n else 20)) := by
        by_cases h1 : i < n
        · left; rw [if_neg (by omega)]; simp; omega
        · right; simp; split <;> omega
      have HST := Lib.hid hstop
      have HVE := Lib.hid (show i = (if n < 20 then n else 20) from hstop.elim (fun h => h.2.2.2.2.2) (fun h => h.2.2))
      clear hstop hlt
      rcases HST.out with ⟨_, x1, x2, x3, x4, xx⟩ | ⟨x1, x2, xx⟩
      all_goals (
        clear xx
        go_wp2_with fail
        (try simp only [Exit.inBlock, Exit.then])
        refine bodyPost_ret (results_tmp5 rfl _ _ _) rfl ?_
        exact ⟨b, ab, rb, _, rfl, A, ch, rs, i, HVE.out, HAB.out, HL.out, HV.out, HX.out⟩)
end Go.Proofs.YtbodobdllchmgaaDoor
namespace Go.Proofs.YtbodobdllchmgaaDoor
open Go Go.ChangeShapes Go.WideShapes Go.ChangeAt Go.RowKit
set_option linter.unusedVariables false
section
variable {H : Type} {enc : TypeId × Value → H}

noncomputable def structFields (t : TypeId) : Array Field := match Tryd.prog.underlying t with | some (.struct fs) => fs | _ => #[]

theorem rk_chain : Tryd.prog.underlying 50 = some (.struct (structFields 50)) := by kernel_rfl
theorem rk_chainC : Tryd.prog.cellsOf 50 = 2 := by kernel_rfl
theorem rk_chainF : ((structFields 50).map fun f : Field => (f.type, f.offset)) = #[(31, 0), (31, 1)] := by kernel_rfl
theorem rk_cellsU64s : Tryd.prog.cellsOf 31 = 1 := by kernel_rfl

set_option maxRecDepth 100000 in
/-- Words inside something that came in. -/
theorem words_trod {W : World} {fuel : Nat} {vcs : List Value} {y : DataW H × List MemPlace} (h : DataW.trod enc Tryd.prog W 0 (fun _ => true) true fuel 31 vcs = some y) :
    ∃ p len cap z, vcs = [.slice p len cap] ∧ WRow W p len cap z := by
  rcases open_ints (k := .u64) Tryd.underlying31 Tryd.underlying56 (by kernel_rfl) h with ⟨hcs, hx⟩ | ⟨a, len, cap, zs, hcs, _, hl, hm, hz, hx, hcell, hwz⟩
  · exact ⟨none, 0, 0, fun _ => 0, hcs, fun _ => ⟨rfl, rfl⟩, Nat.le_refl _, Nat.zero_le _, fun i hi => absurd hi (Nat.not_lt_zero i), fun h => absurd h (Nat.lt_irrefl 0)⟩
  · simp only [if_true] at hz
    refine ⟨some a, len, cap, fun i => zs.getD i 0, hcs, fun e => (by cases e), hl, hm, fun i hi => ?_, fun hpos => ?_⟩
    · have hi2 : i < zs.length := by omega
      have := hwz (zs[i]) (List.getElem_mem hi2)
      show 0 ≤ zs.getD i 0 ∧ _
      rw [List.getD_eq_getElem?_getD, List.getElem?_eq_getElem hi2]
      exact u64_range this
    · have h0 : W.cell? a = some (.int .u64 (zs.getD 0 0)) := by have := hcell 0 (by omega); simpa [Addr.add] using this
      have hsp := World.cell?_spot h0
      obtain ⟨b, off, spot⟩ := a
      obtain rfl : spot = none := hsp
      have hcell' : ∀ i, i < len → W.cell? ⟨b, off + i, none⟩ = some (.int .u64 (zs.getD i 0)) := by
        intro i hi
        have := hcell i (by omega)
        rwa [addr_add] at this
      refine ⟨b, off, rfl, ?_, hcell'⟩
      have := hcell' 0 hpos
      simp only [World.cell?] at this
      split at this
      · rename_i c _ _ hh
        exact (Array.getElem?_eq_some_iff.1 hh).1
      · cases this

set_option maxRecDepth 100000 in
theorem chain_cells {W : World} {n : Nat} {cs : List Value} {x : DataW H × List MemPlace} (h : DataW.trod enc Tryd.prog W 0 (fun _ => true) true n 50 cs = some x) :
    ∃ c : CV, cs = [.slice c.pb c.nb c.cb, .slice c.pe c.ne c.ce] ∧ WRow W c.pb c.nb c.cb c.zb ∧ WRow W c.pe c.ne c.ce c.ze := by
  obtain ⟨xs, m, _, _, hlen, hxs, hf⟩ := DataW.trod_struct rk_chain h
  rw [rk_chainC] at hlen
  have hF := rk_chainF
  generalize (structFields 50) = fs at *
  have hsz : fs.size = 2 := by have := congrArg Array.size hF; simpa using this
  match cs, hlen with
  | [c0, c1], _ =>
    have at_ : ∀ (i : Nat) (p : TypeId × Nat), (#[(31, 0), (31, 1)] : Array (TypeId × Nat))[i]? = some p → ∃ y, DataW.trod enc Tryd.prog W 0 (fun _ => true) true m p.1 (([c0, c1].drop p.2).take (Tryd.prog.cellsOf p.1)) = some y := by
      intro i p hp
      rw [← hF, Array.getElem?_map] at hp
      cases hfi : fs[i]? with
      | none => rw [hfi] at hp; cases hp
      | some f =>
        rw [hfi] at hp
        simp only [Option.map_some, Option.some.injEq] at hp
        subst hp
        have hi : i < fs.size := (Array.getElem?_eq_some_iff.1 hfi).1
        refine ⟨xs[i]'(by omega), ?_⟩
        rw [hf i f hfi]
        exact List.getElem?_eq_getElem (by omega)
    obtain ⟨y0, h0⟩ := at_ 0 (31, 0) rfl
    obtain ⟨y1, h1⟩ := at_ 1 (31, 1) rfl
    simp only [rk_cellsU64s] at h0 h1
    obtain ⟨p0, n0, k0, z0, e0, w0⟩ := words_trod h0
    obtain ⟨p1, n1, k1, z1, e1, w1⟩ := words_trod h1
    simp at e0 e1
    subst e0 e1
    exact ⟨⟨p0, n0, k0, z0, p1, n1, k1, z1⟩, rfl, w0, w1⟩

set_option maxRecDepth 100000 in
/-- A slice of chains that came in. -/
theorem chains_in {t : TypeId} {W : World} {r : Reach} {b0 : Nat} {v : Value} {d : DataW H} {ps : List MemPlace} (ht : Tryd.prog.underlying t = some (.slice 50))
    (hval : Value.okWide Tryd.prog W r b0 t v) (h : DataW.Trod enc Tryd.prog W 0 (fun _ => true) true t v d ps) :
    ∃ p len cap, ∃ f : Nat → CV, v = .slice p len cap ∧ len ≤ cap ∧ cap ≤ maxLen ∧ ((d = .nil ∧ len = 0) ∨ ∃ elems rest, d = .slice elems rest ∧ elems.length = len) ∧ ChIn W p len f := by
  obtain ⟨p, len, cap, rfl, hl, hm, hd, hp⟩ := rows_in ht rk_chainC (by omega) hval h
  by_cases hpos : 0 < len
  · obtain ⟨b, off, rfl, hb, hi⟩ := hp hpos
    have hex : ∀ i, ∃ s : CV, i < len → W.cell? ⟨b, off + i * 2, none⟩ = some (.slice s.pb s.nb s.cb) ∧ W.cell? ⟨b, off + i * 2 + 1, none⟩ = some (.slice s.pe s.ne s.ce) ∧ WRow W s.pb s.nb s.cb s.zb ∧ WRow W s.pe s.ne s.ce s.ze := by
      intro i
      by_cases hil : i < len
      · obtain ⟨cs, n, x, hlen, hc, htr⟩ := hi i hil
        obtain ⟨s, rfl, h1, h2⟩ := chain_cells htr
        exact ⟨s, fun _ => ⟨hc 0 (by omega), hc 1 (by omega), h1, h2⟩⟩
      · exact ⟨⟨none, 0, 0, fun _ => 0, none, 0, 0, fun _ => 0⟩, fun h => absurd h hil⟩
    obtain ⟨f, hf⟩ := Classical.axiomOfChoice hex
    exact ⟨_, len, cap, f, rfl, hl, hm, hd, fun _ => ⟨b, off, rfl, fun i hi => hf i hi⟩⟩
  · exact ⟨p, len, cap, fun _ => ⟨none, 0, 0, fun _ => 0, none, 0, 0, fun _ => 0⟩, rfl, hl, hm, hd, fun h => absurd h hpos⟩
end
end Go.Proofs.YtbodobdllchmgaaDoor
namespace Go.Proofs.YtbodobdllchmgaaDoor
open Go Go.RowKit
set_option linter.unusedVariables false

abbrev Tri := ASt × (Nat → List Nat) × Nat

def chL (A : ASt) (ch : Nat → List Nat) (x : Int) : List Nat := if A.isN x = true then ch (x - 1).toNat else []
def tkT (mark : Int) (t : Tri) (i : Nat) (vs : List Nat) : Tri := ((tkA mark t.1 t.2.1 i vs).1, (tkA mark t.1 t.2.1 i vs).2.1, t.2.2 + (tkA mark t.1 t.2.1 i vs).2.2)
/-- What a sweep does to one node. -/
def one (mark : Int) (t : Tri) (x : Int) : Tri := match chL t.1 t.2.1 x with
  | [] => t
  | u :: r => tkT mark t (x - 1).toNat (u :: r)
def outcome (mark : Int) (S : Sw) : Tri := match S.pc with
  | .node => S.rest.foldl (one mark) (S.A, S.ch, S.gone)
  | .beg i vs u r => S.rest.foldl (one mark) (tkT mark (S.A, S.ch, S.gone) i (vs ++ u :: r))
  | .en i vs u r => S.rest.foldl (one mark) (tkT mark (S.A, S.ch, S.gone) i (vs ++ u :: r))
  | .beh i vs u r => S.rest.foldl (one mark) (tkT mark (S.A, S.ch, S.gone) i (vs ++ u :: r))
  | .tk i vs => S.rest.foldl (one mark) (tkT mark (S.A, S.ch, S.gone) i vs)

theorem outcome_nxt (mark : Int) (S : Sw) : outcome mark (nxt mark S) = outcome mark S := by
  obtain ⟨A, ch, gn, rest, pc⟩ := S
  cases pc with
  | node =>
    cases rest with
    | nil => rfl
    | cons x rest =>
      have e : outcome mark ⟨A, ch, gn, x :: rest, .node⟩ = rest.foldl (one mark) (one mark (A, ch, gn) x) := rfl
      rw [e]
      unfold nxt one chL
      dsimp only
      cases hl : (if A.isN x = true then ch (x - 1).toNat else []) with
      | nil => rfl
      | cons u r => rfl
  | beg i vs u r => rfl
  | en i vs u r => rfl
  | beh i vs u r =>
    cases r with
    | nil => rfl
    | cons u' r' =>
      show rest.foldl (one mark) (tkT mark (A, ch, gn) i ((vs ++ [u]) ++ u' :: r')) = rest.foldl (one mark) (tkT mark (A, ch, gn) i (vs ++ u :: u' :: r'))
      rw [List.append_assoc]; rfl
  | tk i vs => rfl

def atT (t : Tri) (st : Int) : Tri := (t.1.at st, t.2)
theorem tkA_at (mark : Int) (A : ASt) (st : Int) (ch : Nat → List Nat) (i : Nat) (vs : List Nat) : tkA mark (A.at st) ch i vs = atT (tkA mark A ch i vs) st := by
  have hs : stayL (A.at st) mark vs = stayL A mark vs := rfl
  unfold tkA
  rw [hs]
  dsimp only
  split
  · rfl
  · split
    · rw [cutV_at']; rfl
    · split
      · rw [cutV_at', dropV_at']; rfl
      · rfl
theorem tkT_at (mark : Int) (t : Tri) (st : Int) (i : Nat) (vs : List Nat) : tkT mark (atT t st) i vs = atT (tkT mark t i vs) st := by
  unfold tkT
  show (((tkA mark (t.1.at st) t.2.1 i vs).1, (tkA mark (t.1.at st) t.2.1 i vs).2.1, t.2.2 + (tkA mark (t.1.at st) t.2.1 i vs).2.2) : Tri) = _
  rw [tkA_at]; rfl
theorem one_at (mark : Int) (t : Tri) (st : Int) (x : Int) : one mark (atT t st) x = atT (one mark t x) st := by
  unfold one
  have : chL (atT t st).1 (atT t st).2.1 x = chL t.1 t.2.1 x := rfl
  rw [this]
  cases chL t.1 t.2.1 x with
  | nil => rfl
  | cons u r => exact tkT_at mark t st _ _
theorem fold_at (mark : Int) (l : List Int) (t : Tri) (st : Int) : l.foldl (one mark) (atT t st) = atT (l.foldl (one mark) t) st := by
  induction l generalizing t with
  | nil => rfl
  | cons x l ih => rw [List.foldl_cons, one_at, ih, List.foldl_cons]
theorem outcome_at (mark : Int) (S : Sw) (st : Int) : outcome mark (S.at st) = atT (outcome mark S) st := by
  obtain ⟨A, ch, gn, rest, pc⟩ := S
  cases pc with
  | node => exact fold_at mark rest (A, ch, gn) st
  | beg i vs u r => show rest.foldl (one mark) (tkT mark (atT (A, ch, gn) st) i (vs ++ u :: r)) = _; rw [tkT_at, fold_at]; rfl
  | en i vs u r => show rest.foldl (one mark) (tkT mark (atT (A, ch, gn) st) i (vs ++ u :: r)) = _; rw [tkT_at, fold_at]; rfl
  | beh i vs u r => show rest.foldl (one mark) (tkT mark (atT (A, ch, gn) st) i (vs ++ u :: r)) = _; rw [tkT_at, fold_at]; rfl
  | tk i vs => show rest.foldl (one mark) (tkT mark (atT (A, ch, gn) st) i vs) = _; rw [tkT_at, fold_at]; rfl

theorem cutV_used {A : ASt} {v : Nat} {post : List Nat} (hd' : post.Pairwise (· > ·)) (h : ∀ u ∈ post, 1 ≤ u ∧ A.ver (u - 1) = true) : (A.cutV v post).used + 3 * post.length = A.used := by
  unfold ASt.cutV
  have := goneAll_used (A := A.set (.next (v - 1)) 0) post hd' fun u hu => ⟨(h u hu).1, by rw [ASt.ver_set]; exact (h u hu).2⟩
  rw [ASt.used_set] at this
  exact this
theorem dropV_used {A : ASt} {i v : Nat} {nx : Int} (h : A.ver (v - 1) = true) : (A.dropV i v nx).used + 3 = A.used := by
  unfold ASt.dropV
  have := goneV_used (A := A.set (.head i) nx) (i := v - 1) (by rw [ASt.ver_set]; exact h)
  rw [ASt.used_set] at this
  exact this

theorem tkA_used {mark : Int} {A : ASt} {ch : Nat → List Nat} (h : Chs A ch) {i : Nat} (hi : i < A.nN) {pre vs : List Nat} (e : ch i = pre ++ vs) : (tkA mark A ch i vs).1.used + 3 * (tkA mark A ch i vs).2.2 = A.used := by
  have hl := h.link i hi
  have hf := hl.falls h.down
  rw [e] at hl hf
  have hlv := Linked.tail pre hl
  have hfv := (List.pairwise_append.1 hf).2.1
  have hm := hlv.mem
  rcases tkA_eq mark A ch i vs with ⟨ht, _⟩ | ⟨s, hs, hlt, ht⟩ | ⟨hs, h0, hc, ht⟩
  · rw [ht]; rfl
  · rw [ht]
    have := cutV_used (A := A) (v := vs.getD s 0) (post := vs.drop (s + 1)) (hfv.sublist (List.drop_sublist _ _)) fun u hu => hm u (List.mem_of_mem_drop hu)
    rw [List.length_drop] at this
    exact this
  · rw [ht]
    have h1 := cutV_used (A := A) (v := vs.getD 0 0) (post := vs.drop 1) (hfv.sublist (List.drop_sublist _ _)) fun u hu => hm u (List.mem_of_mem_drop hu)
    have hsp := split_at vs 0 h0
    rw [List.take_zero, List.nil_append] at hsp
    have hm0 := hm (vs.getD 0 0) (by rw [hsp]; simp)
    rw [hsp] at hfv
    have hv : (A.cutV (vs.getD 0 0) (vs.drop 1)).ver (vs.getD 0 0 - 1) = true := by
      rw [cutV_ver A fun u hu => (hm u (List.mem_of_mem_drop hu)).1, hm0.2]
      simp only [Bool.true_and, decide_eq_true_eq]
      intro hmem
      rw [show vs.getD 0 0 - 1 + 1 = vs.getD 0 0 by have := hm0.1; omega] at hmem
      exact absurd ((List.pairwise_cons.1 hfv).1 _ hmem) (Nat.lt_irrefl _)
    have h2 := dropV_used (A := A.cutV (vs.getD 0 0) (vs.drop 1)) (i := i) (v := vs.getD 0 0) (nx := 0) hv
    rw [List.length_drop] at h1
    show ((A.cutV (vs.getD 0 0) (vs.drop 1)).dropV i (vs.getD 0 0) 0).used + 3 * vs.length = A.used
    omega

theorem nxt_used {mark : Int} {S : Sw} (hc : Chs S.A S.ch) (hp : S.pc.ok S.A S.ch) : (nxt mark S).A.used + 3 * (nxt mark S).gone = S.A.used + 3 * S.gone := by
  obtain ⟨A, ch, gn, rest, pc⟩ := S
  cases pc with
  | node =>
    cases rest with
    | nil => rfl
    | cons x rest =>
      obtain ⟨_, h1, _, h2, _⟩ := nxt_node (mark := mark) (S := ⟨A, ch, gn, x :: rest, .node⟩) rfl rfl
      rw [h1, h2]
  | beg i vs u r => rfl
  | en i vs u r => rfl
  | beh i vs u r => cases r <;> rfl
  | tk i vs =>
    obtain ⟨hi, hv, pre, e⟩ := hp
    have h5 : (tkA mark A ch i vs).1.used + 3 * (tkA mark A ch i vs).2.2 = A.used := tkA_used hc hi e
    show (tkA mark A ch i vs).1.used + 3 * (gn + (tkA mark A ch i vs).2.2) = A.used + 3 * gn
    omega

def cost (A : ASt) (ch : Nat → List Nat) (x : Int) : Nat := 3 * (chL A ch x).length + 2
def costs (A : ASt) (ch : Nat → List Nat) : List Int → Nat
  | [] => 0
  | x :: l => cost A ch x + costs A ch l
def leftS (S : Sw) : Nat := S.pc.left + costs S.A S.ch S.rest

theorem costs_mono {A A' : ASt} {ch ch' : Nat → List Nat} (hN : A'.nN = A.nN) (h : ∀ j, ch' j <+: ch j) (l : List Int) : costs A' ch' l ≤ costs A ch l := by
  induction l with
  | nil => exact Nat.le_refl _
  | cons x l ih =>
    have : cost A' ch' x ≤ cost A ch x := by
      unfold cost chL
      rw [isN_of hN]
      split
      · have := (h (x - 1).toNat).length_le; omega
      · omega
    unfold costs; omega

theorem nxt_leftS {mark : Int} {S : Sw} (hc : Chs S.A S.ch) (hp : S.pc.ok S.A S.ch) (hf : ¬ (S.pc = .node ∧ S.rest = [])) : leftS (nxt mark S) < leftS S := by
  obtain ⟨_, _, hN, _, hpre, _⟩ := nxt_ok (mark := mark) hc hp
  by_cases hn : S.pc = .node
  · cases hr : S.rest with
    | nil => exact absurd ⟨hn, hr⟩ hf
    | cons x rest =>
      obtain ⟨h1, h2, h3, h4, h5⟩ := nxt_node (mark := mark) hn hr
      unfold leftS
      rw [h1, h2, h3, hn, hr]
      have hcost : (nxt mark S).pc.left < cost S.A S.ch x := by
        unfold cost chL
        rcases h5 with ⟨e, _⟩ | ⟨hx, u, r, e1, e⟩
        · rw [e]; show 0 < _; omega
        · rw [e, if_pos hx, e1]; show 3 * r.length + 4 < _; rw [List.length_cons]; omega
      show _ < 0 + (cost S.A S.ch x + costs S.A S.ch rest)
      omega
  · obtain ⟨h1, h2⟩ := nxt_left (mark := mark) hn
    have := costs_mono hN hpre S.rest
    unfold leftS
    rw [h2]; omega

variable {o : List Nat} {w0 w : World} {b ob : Nat} {mark : Int} {nv : Value} {l : List Int}

/-- Steps to the end, at most so many. -/
def RunsB (ob : Nat) (R : Nat → World → Prop) (F : World → Prop) : Prop :=
  ∀ n w, R n w → (Calls Tryd.prog 11 #[Pt ob] w fun e w' => e = .returned (.bool false) ∧ ∃ m, m < n ∧ R m w') ∨ (Calls Tryd.prog 11 #[Pt ob] w fun e w' => e = .returned (.bool true) ∧ F w')

set_option maxHeartbeats 1000000 in
set_option maxRecDepth 100000 in
theorem done_walk2 {R : Nat → World → Prop} {F : World → Prop} (hR : RunsB ob R F) (n : Nat) (most : Int) (hm : (n : Int) + 1 ≤ most) (hm9 : most ≤ 1000000000000) (h : R n w) :
    Calls Tryd.prog 20 #[Pt ob, .int .i64 most] w fun e w' => ∃ k : Int, e = .returned (.int .i64 k) ∧ 0 < k ∧ F w' := by
  have HR := Lib.hid hR
  have H := Lib.hid h
  clear hR h
  go_enter Tryd.func20, Tryd.ntmps20
  go_wp2_with fail
  go_loopg [5] n (fun k iv wr => ∃ i : Nat, k + i ≤ n ∧ iv = .int .i64 ((i : Int) + 1) ∧ R k wr)
  case atStart => exact ⟨0, Nat.le_refl _, rfl, H.out⟩
  case round =>
    clear H
    obtain ⟨i, hi, rfl, hX⟩ := hrel
    have d1 : decide ((i : Int) + 1 ≤ most) = true := by simp; omega
    rcases HR.out _ _ hX with hS | hS
    · have HS := Lib.hid hS
      clear hS hX
      go_wp2_with fail
      refine HS.out.mono ?_
      rintro e w2 ⟨rfl, m, hm, hX⟩
      have HX := Lib.hid hX
      clear hX
      go_wp2_with fail
      go_roundg m
      case measure => exact hm
      case rel => exact ⟨i + 1, by omega, by go_num, HX.out⟩
    · have HS := Lib.hid hS
      clear hS hX
      go_wp2_with fail
      refine HS.out.mono ?_
      rintro e w2 ⟨rfl, hX⟩
      have HX := Lib.hid hX
      clear hX
      go_wp2_with fail
      go_ret
      exact ⟨_, rfl, by omega, HX.out⟩

/-- A sweep alone, to its end. -/
theorem run_alone {S : Sw} (hS : SwAt o w0 w b ob mark nv l S) (hc : Chs S.A S.ch) (hp : S.pc.ok S.A S.ch) (hV : S.A.nV ≤ 1000000) (hU : S.A.used + 3 * S.gone ≤ 1000000) (most : Int) (hm : (leftS S : Int) + 1 ≤ most) (hm9 : most ≤ 1000000000000) :
    Calls Tryd.prog 20 #[Pt ob, .int .i64 most] w fun e w' => ∃ k : Int, e = .returned (.int .i64 k) ∧ 0 < k ∧ ∃ (S' : Sw) (st : Int), SwDone o w0 w' b ob mark nv l S' ∧ (S'.A, S'.ch, S'.gone) = atT (outcome mark S) st ∧ Chs S'.A S'.ch ∧
      S'.A.nN = S.A.nN ∧ S'.A.nV = S.A.nV ∧ S'.A.used + 3 * S'.gone = S.A.used + 3 * S.gone := by
  refine done_walk2 (R := fun n W => ∃ (S' : Sw) (st : Int), SwAt o w0 W b ob mark nv l S' ∧ outcome mark S' = atT (outcome mark S) st ∧ Chs S'.A S'.ch ∧ S'.pc.ok S'.A S'.ch ∧ S'.A.nN = S.A.nN ∧ S'.A.nV = S.A.nV ∧ S'.A.used + 3 * S'.gone = S.A.used + 3 * S.gone ∧ leftS S' ≤ n)
    (F := fun W => ∃ (S' : Sw) (st : Int), SwDone o w0 W b ob mark nv l S' ∧ (S'.A, S'.ch, S'.gone) = atT (outcome mark S) st ∧ Chs S'.A S'.ch ∧ S'.A.nN = S.A.nN ∧ S'.A.nV = S.A.nV ∧ S'.A.used + 3 * S'.gone = S.A.used + 3 * S.gone)
    ?_ (leftS S) most hm hm9 ⟨S, S.A.steps, hS, outcome_at mark S S.A.steps, hc, hp, rfl, rfl, rfl, Nat.le_refl _⟩
  rintro n W ⟨S', st, h1, h2, h3, h4, h5, h6, h7, h8⟩
  by_cases hf : S'.pc = .node ∧ S'.rest = []
  · right
    refine (step_last h1 hf.1 hf.2).mono ?_
    rintro e w' ⟨rfl, h'⟩
    refine ⟨rfl, S', st, h', ?_, h3, h5, h6, h7⟩
    rw [← h2]
    unfold outcome
    rw [hf.1]
    dsimp only
    rw [hf.2]; rfl
  · left
    refine (step_any h1 h3 h4 (by omega) (by omega) hf).mono ?_
    rintro e w' ⟨rfl, st', h'⟩
    obtain ⟨a1, a2, a3, a4, _, _⟩ := nxt_ok (mark := mark) h3 h4
    have hl := nxt_leftS (mark := mark) h3 h4 hf
    refine ⟨rfl, leftS (nxt mark S'), by omega, (nxt mark S').at st', st', h', ?_, a1.at st', ?_, a3.trans h5, a4.trans h6, (nxt_used h3 h4).trans h7, Nat.add_le_add_left (costs_mono (A := (nxt mark S').A) (A' := (nxt mark S').A.at st') rfl (fun _ => List.prefix_refl _) _) _⟩
    · rw [outcome_at, outcome_nxt, h2]; rfl
    · show (nxt mark S').pc.ok ((nxt mark S').A.at st') (nxt mark S').ch
      cases hpc : (nxt mark S').pc <;> (rw [hpc] at a2; exact a2)
end Go.Proofs.YtbodobdllchmgaaDoor
