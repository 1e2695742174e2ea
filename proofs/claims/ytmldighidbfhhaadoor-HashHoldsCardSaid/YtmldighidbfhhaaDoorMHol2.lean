/- What a statement's row wants of any walk that leaves all that was there as it was. Nothing is claimed of a program here.
Slices of structs that came in, opened to their cells. Nothing is claimed of a program's calls here.
The sum over bytes, told twice: the two are one. Plain lemmas: nothing is claimed of a program here.
Parts of a memory side by side: each in blocks of its own. Plain lemmas: nothing is claimed of a program here.
Rows of a call's own: what stands in them, and stores. Plain lemmas: nothing is claimed of a program here.
More on parts side by side: what may be forgotten, appends, stores, what is read. Plain lemmas: nothing is claimed of a program here.
Rows of elements of several cells that a call owns: what is read, stored, appended; parts with a hidden content. Plain lemmas: nothing is claimed of a program here.
The walks of cells.New, Used, Steps, and of Alloc where no cell is free. -/
import Derived.Test.YtmldighidbfhhaaDoorCards
import Derived.Test.YtmldighidbfhhaaDoorTie
import Derived.Test.YtmldighidbfhhaaDoorMHol1
import Derived.WalkKit
import Derived.ProofKit
import Derived.OpenShut
import Derived.ChangeOld
import Derived.SizedLaws
import Derived.Deep.DeepHandedRow
import Derived.Lib.LaidTab
import Derived.Deep.Slices
namespace Go.Proofs.YtmldighidbfhhaaDoor
open Go Go.ChangeShapes Go.WideShapes Go.ChangeAt Go.RowKit
set_option linter.unusedVariables false

theorem rk_own : ownKnob Tryd.prog.godebug = none := by kernel_rfl
theorem rk_laidOut : laidOutB Tryd.prog = true := by kernel_rfl
theorem rk_gTab : Tryd.prog.globalNamed "math/bits.deBruijn64tab" = some 0 := by kernel_rfl
theorem rk_gType : (Tryd.prog.globals[0]?).map (·.type) = some 108 := by kernel_rfl
theorem rk_cells64 : Tryd.prog.cellsOf 108 = 64 := by kernel_rfl
theorem rk_cells8 : Tryd.prog.cellsOf 5 = 1 := by kernel_rfl
theorem rk_cellsU64 : Tryd.prog.cellsOf 67 = 1 := by kernel_rfl
theorem rk_cellsInt : Tryd.prog.cellsOf 3 = 1 := by kernel_rfl
theorem rk_bytesU64 : Tryd.prog.bytesOf 67 = 8 := by kernel_rfl
theorem rk_bytesInt : Tryd.prog.bytesOf 3 = 8 := by kernel_rfl

def rk_laid : List (String × DataW Unit) := [("math/bits.deBruijn64tab", Rows.laid_math_bits_deBruijn64tab)]

theorem rk_table {W : World} (h : laidMetH Tryd.prog rk_laid W) : TabAt W := by
  have ht := Lib.tabIs_of_head (k := .u8) (zs := Lib.deBruijn64tab.map (fun n : Nat => (n : Int))) (rest := []) rk_gTab rk_gType Tryd.underlying108 Tryd.underlying5 rk_cells8 rk_cells64 h
  intro j hj
  have := Lib.TabIs.cell ht rk_gTab j (by simpa using hj)
  rw [this]
  simp [List.getD_eq_getElem?_getD]
  have hj' : j < Lib.deBruijn64tab.length := hj
  simp [hj']

section
variable {H : Type} {enc : TypeId × Value → H}

theorem below_trodAll {W W' : World} (hb : Below W.heap.size W W') : ∀ {ts : List TypeId} {vs : List Value} {ds : List (DataW H)} {ps : List MemPlace}, (∀ t ∈ ts, Tryd.prog.readableRec t = true ∧ t < Tryd.prog.types.size) → DataW.TrodAll enc Tryd.prog W 0 (fun _ => true) true ts vs ds ps →
    (∀ x ∈ ps, x.block < W.heap.size) → DataW.TrodAll enc Tryd.prog W' 0 (fun b => decide (b < W.heap.size)) true ts vs ds ps
  | [], vs, ds, ps, _, h, _ => by
    obtain ⟨rfl, rfl, rfl⟩ := trodAll_nil h
    exact trodAll_mk0
  | t :: ts, vs, ds, ps, hr, h, hlt => by
    obtain ⟨v, vs', d, ds', p, q, rfl, rfl, rfl, h1, h2⟩ := trodAll_cons h
    exact trodAll_cons_mk (Below.trod rk_laidOut (hr t (by simp)).1 (hr t (by simp)).2 h1 hb fun x hx => hlt x (by simp [hx])) (below_trodAll hb (fun t' ht' => hr t' (by simp [ht'])) h2 fun x hx => hlt x (by simp [hx]))

/-- A walk that answers true and keeps all that was there proves the row's contract. -/
theorem law_post {f : Func} {s : ChangeSpec} {W W' : World} {args : Array Value} {ds gs : List (DataW H)} {before : List MemPlace}
    (hv : s.vars = []) (hrt : f.resultTypes = #[4]) (hp : ∀ t ∈ f.params.toList, Tryd.prog.readableRec t = true ∧ t < Tryd.prog.types.size)
    (hW : DataW.Whole enc Tryd.prog f.params.toList s.vars false W args.toList ds gs before) (hres : (s.fn H (ds ++ gs)).results = [.lit (.bool true)]) (hargs : (s.fn H (ds ++ gs)).args = ds) (hvars : (s.fn H (ds ++ gs)).vars = [])
    (hk : Kept [] W W') : s.post enc Tryd.prog f false true false false W args (.bool true) W' := by
  have hb : Below W.heap.size W W' := hk.below (Nat.le_refl _) (by simp)
  have hW' := hW
  have hlt := hW.lt
  obtain ⟨p, q, hA, hV, rfl, hfz, hnd⟩ := hW
  refine ⟨ds, gs, p ++ q, [], p, q, hW', ?_, ?_, ?_, hb.frame _, fun h => by cases h⟩
  · rw [hrt, hres]
    exact trodAll_mk1 (shut_bool Tryd.underlying4 _)
  · rw [hargs]
    exact below_trodAll hb hp hA fun x hx => hlt x (by simp [hx])
  · rw [hvars, hv]
    rw [hv] at hV
    obtain ⟨rfl, rfl⟩ := trodVars_none hV
    exact hV

set_option maxRecDepth 100000 in
/-- A slice of integers that came in. -/
theorem ints_in {t e : TypeId} {k : IntKind} {W : World} {r : Reach} {b0 : Nat} {v : Value} {d : DataW H} {ps : List MemPlace} (ht : Tryd.prog.underlying t = some (.slice e)) (he : Tryd.prog.underlying e = some (.int k)) (hc : Tryd.prog.cellsOf e = 1)
    (hval : Value.okWide Tryd.prog W r b0 t v) (h : DataW.Trod enc Tryd.prog W 0 (fun _ => true) true t v d ps) :
    ∃ p len cap zs, v = .slice p len cap ∧ zs.length = len ∧ len ≤ cap ∧ cap ≤ maxLen ∧ (∀ n ∈ zs, (Lit.int k n).wf = true) ∧ ((d = .nil ∧ len = 0) ∨ ∃ rest, d = .slice (lits k zs) rest) ∧
      (0 < len → ∃ b off, p = some ⟨b, off, none⟩ ∧ b < W.heap.size ∧ ∀ i, i < len → W.cell? ⟨b, off + i, none⟩ = some (.int k (zs.getD i 0))) := by
  obtain ⟨a0, len, cap, rfl⟩ := okWide_slice ht hval
  obtain ⟨fuel, hf⟩ := h
  rcases open_ints ht he hc hf with ⟨hcs, hx⟩ | ⟨a, len', cap', zs, hcs, _, hl, hm, hz, hx, hcell, hwz⟩
  · simp [Value.cells] at hcs
    obtain ⟨rfl, rfl, rfl⟩ := hcs
    simp only [Prod.mk.injEq] at hx
    exact ⟨_, _, _, [], rfl, rfl, Nat.le_refl _, Nat.zero_le _, by simp, .inl ⟨hx.1, rfl⟩, by omega⟩
  · simp [Value.cells] at hcs
    obtain ⟨rfl, rfl, rfl⟩ := hcs
    simp only [Prod.mk.injEq] at hx
    simp only [if_true] at hz
    have hlen : (zs.take len).length = len := by simp; omega
    refine ⟨_, _, _, zs.take len, rfl, hlen, hl, hm, fun n hn => hwz n (List.mem_of_mem_take hn), .inr ⟨_, hx.1⟩, fun hpos => ?_⟩
    have h0 : W.cell? a = some (.int k (zs.getD 0 0)) := by have := hcell 0 (by omega); simpa [Addr.add] using this
    have hsp := World.cell?_spot h0
    obtain ⟨b, off, spot⟩ := a
    obtain rfl : spot = none := hsp
    have hcell' : ∀ i, i < len → W.cell? ⟨b, off + i, none⟩ = some (.int k ((zs.take len).getD i 0)) := by
      intro i hi
      have := hcell i (by omega)
      simp only [Addr.add] at this
      have e : (zs.take len).getD i 0 = zs.getD i 0 := by simp [List.getD_eq_getElem?_getD, hi]
      rw [e]
      split at this
      · rename_i e0; subst e0; simpa using this
      · simpa using this
    refine ⟨b, off, rfl, ?_, hcell'⟩
    have := hcell' 0 hpos
    simp only [World.cell?] at this
    split at this
    · rename_i c _ _ hh
      exact (Array.getElem?_eq_some_iff.1 hh).1
    · cases this
end

/-- A world for the witness: the settled one, the table as its initialiser lays it. -/
noncomputable def rk_world (os : Os) : World :=
  { World.holding Tryd.prog os ⟨#[], #[], []⟩ with heap := (World.holding Tryd.prog os ⟨#[], #[], []⟩).heap.modify 0 fun
      | .cells _ t frozen => .cells (Lib.deBruijn64tab.map fun n : Nat => Value.int .u8 n).toArray t frozen
      | o => o }
end Go.Proofs.YtmldighidbfhhaaDoor
namespace Go.Proofs.YtmldighidbfhhaaDoor
open Go Go.ChangeShapes Go.WideShapes Go.ChangeAt Go.RowKit
set_option linter.unusedVariables false
section
variable {H : Type} {enc : TypeId × Value → H}

theorem addr_add (b off i : Nat) : (⟨b, off, none⟩ : Addr).add i = ⟨b, off + i, none⟩ := by
  simp only [Addr.add]
  split
  · rename_i h; subst h; rfl
  · rfl

set_option maxRecDepth 100000 in
/-- A slice that came in: its elements' cells, each read by its own type. -/
theorem rows_in {t e : TypeId} {C : Nat} {W : World} {r : Reach} {b0 : Nat} {v : Value} {d : DataW H} {ps : List MemPlace} (ht : Tryd.prog.underlying t = some (.slice e)) (hC : Tryd.prog.cellsOf e = C) (hC0 : 0 < C)
    (hval : Value.okWide Tryd.prog W r b0 t v) (h : DataW.Trod enc Tryd.prog W 0 (fun _ => true) true t v d ps) :
    ∃ p len cap, v = .slice p len cap ∧ len ≤ cap ∧ cap ≤ maxLen ∧ ((d = .nil ∧ len = 0) ∨ ∃ elems rest, d = .slice elems rest ∧ elems.length = len) ∧
      (0 < len → ∃ b off, p = some ⟨b, off, none⟩ ∧ b < W.heap.size ∧ ∀ i, i < len → ∃ cs n x, cs.length = C ∧ (∀ j, j < C → W.cell? ⟨b, off + i * C + j, none⟩ = cs[j]?) ∧ DataW.trod enc Tryd.prog W 0 (fun _ => true) true n e cs = some x) := by
  obtain ⟨a0, len, cap, rfl⟩ := okWide_slice ht hval
  obtain ⟨fuel, hf⟩ := h
  rcases Go.Deep.open_slice ht hf with ⟨hcs, hx⟩ | ⟨a, len', cap', m, n, D, Pl, hcs, hb, hl, hm, hmm, hx, hi⟩
  · simp [Value.cells] at hcs
    obtain ⟨rfl, rfl, rfl⟩ := hcs
    simp only [Prod.mk.injEq] at hx
    exact ⟨_, _, _, rfl, Nat.le_refl _, Nat.zero_le _, .inl ⟨hx.1, rfl⟩, by omega⟩
  · simp [Value.cells] at hcs
    obtain ⟨rfl, rfl, rfl⟩ := hcs
    simp only [Prod.mk.injEq] at hx
    refine ⟨_, _, _, rfl, hl, hm, .inr ⟨_, _, hx.1, by simp⟩, fun hpos => ?_⟩
    simp only [if_true] at hmm
    obtain ⟨cs0, h0, _⟩ := hi 0 (by omega)
    rw [hC] at h0
    obtain ⟨_, hl0, hc0⟩ := World.cells?_some h0
    have h00 := hc0 0 hC0
    have hsome : ∃ u, W.cell? a = some u := by
      refine ⟨cs0[0]'(by omega), ?_⟩
      have e : (a.add (0 * C)).add 0 = a := by simp [Addr.add]
      rw [e] at h00
      rw [h00]
      exact List.getElem?_eq_getElem (by omega)
    obtain ⟨u, hu⟩ := hsome
    have hsp := World.cell?_spot hu
    obtain ⟨b, off, spot⟩ := a
    obtain rfl : spot = none := hsp
    refine ⟨b, off, rfl, ?_, fun i hil => ?_⟩
    · simp only [World.cell?] at hu
      split at hu
      · rename_i c _ _ hh
        exact (Array.getElem?_eq_some_iff.1 hh).1
      · cases hu
    · obtain ⟨cs, h1, h2⟩ := hi i (by omega)
      rw [hC] at h1
      obtain ⟨_, hl1, hc1⟩ := World.cells?_some h1
      refine ⟨cs, n, _, hl1, fun j hj => ?_, h2⟩
      have := hc1 j hj
      rwa [addr_add, addr_add] at this

end
end Go.Proofs.YtmldighidbfhhaaDoor
namespace Go.Proofs.YtmldighidbfhhaaDoor
open Go Go.RowKit
set_option linter.unusedVariables false

/-- A bit's turn. -/
def crcB (c : Int) : Int := Go.bits .xor .u32 (c / 2) (Go.bits .and .u32 3988292384 (IntKind.u32.wrap (0 - Go.bits .and .u32 c 1)))
/-- A byte's turn. -/
def crcN : Nat → Int → Int
  | 0, c => c
  | n + 1, c => crcN n (crcB c)
def crcX (c x : Int) : Int := crcN 8 (Go.bits .xor .u32 c x)
def crcL (c : Int) (l : List Int) : Int := l.foldl crcX c
def crcF (l : List Int) : Int := Go.bits .xor .u32 4294967295 (crcL 4294967295 l)

theorem crcB_form (c : Int) : crcB c = Go.bits .xor .u32 (c / 2) (Go.bits .and .u32 3988292384 (-Go.bits .and .u32 c 1 % 4294967296)) := by
  unfold crcB
  have e : ∀ x : Int, IntKind.u32.wrap x = x % 4294967296 := fun _ => rfl
  rw [e, Int.zero_sub]

theorem wrap32 {x : Int} (h0 : 0 ≤ x) (h1 : x < 4294967296) : IntKind.u32.wrap x = x := by
  have e : IntKind.u32.wrap x = x % 4294967296 := rfl
  rw [e]; omega

theorem bits32 (op : BinOp) (x y : Int) : 0 ≤ Go.bits op .u32 x y ∧ Go.bits op .u32 x y < 4294967296 := by
  have e : ∀ z : Int, IntKind.u32.wrap z = z % 4294967296 := fun _ => rfl
  unfold Go.bits
  rw [e]
  omega

theorem xor0 {c : Int} (h0 : 0 ≤ c) (h1 : c < 4294967296) : Go.bits .xor .u32 c 0 = c := by
  obtain ⟨n, rfl⟩ := Int.eq_ofNat_of_zero_le h0
  unfold Go.bits
  show IntKind.u32.wrap (((BitVec.ofInt 32 (n : Int)) ^^^ (BitVec.ofInt 32 0)).toNat : Int) = n
  have e : BitVec.ofInt 32 0 = 0#32 := by decide
  rw [e, BitVec.xor_zero, BitVec.toNat_ofInt]
  rw [show ((n : Int) % ((2 ^ 32 : Nat) : Int)).toNat = n by omega]
  exact wrap32 h0 h1

theorem and1 {c : Int} (h0 : 0 ≤ c) (h1 : c < 4294967296) : Go.bits .and .u32 c 1 = c % 2 := by
  obtain ⟨n, rfl⟩ := Int.eq_ofNat_of_zero_le h0
  unfold Go.bits
  show IntKind.u32.wrap (((BitVec.ofInt 32 (n : Int)) &&& (BitVec.ofInt 32 1)).toNat : Int) = (n : Int) % 2
  rw [BitVec.toNat_and, BitVec.toNat_ofInt, BitVec.toNat_ofInt]
  rw [show ((n : Int) % ((2 ^ 32 : Nat) : Int)).toNat = n by omega, show ((1 : Int) % ((2 ^ 32 : Nat) : Int)).toNat = 1 by decide, Nat.and_one_is_mod]
  rw [wrap32 (by omega) (by omega)]
  omega

theorem xorC (x y : Int) : Go.bits .xor .u32 x y = Go.bits .xor .u32 y x := by
  unfold Go.bits
  show IntKind.u32.wrap (((BitVec.ofInt 32 x) ^^^ (BitVec.ofInt 32 y)).toNat : Int) = IntKind.u32.wrap (((BitVec.ofInt 32 y) ^^^ (BitVec.ofInt 32 x)).toNat : Int)
  rw [BitVec.xor_comm]

/-- The document's turn of a bit. -/
theorem crcB_eq {c : Int} (h0 : 0 ≤ c) (h1 : c < 4294967296) : crcB c = if c % 2 = 1 then Go.bits .xor .u32 (c / 2) 3988292384 else c / 2 := by
  unfold crcB
  rw [and1 h0 h1]
  rcases Int.emod_two_eq c with h | h
  · rw [h, if_neg (by omega), show Go.bits .and .u32 3988292384 (IntKind.u32.wrap (0 - 0)) = 0 by decide +kernel, xor0 (by omega) (by omega)]
  · rw [h, if_pos rfl, show Go.bits .and .u32 3988292384 (IntKind.u32.wrap (0 - 1)) = 3988292384 by decide +kernel]

theorem crcB_range {c : Int} : 0 ≤ crcB c ∧ crcB c < 4294967296 := bits32 _ _ _
theorem crcN_range (n : Nat) {c : Int} (h : 0 ≤ c ∧ c < 4294967296) : 0 ≤ crcN n c ∧ crcN n c < 4294967296 := by
  induction n generalizing c with
  | zero => exact h
  | succ n ih => exact ih crcB_range
theorem crcX_range (c x : Int) : 0 ≤ crcX c x ∧ crcX c x < 4294967296 := crcN_range 8 (bits32 _ _ _)
theorem crcL_range (l : List Int) {c : Int} (h : 0 ≤ c ∧ c < 4294967296) : 0 ≤ crcL c l ∧ crcL c l < 4294967296 := by
  induction l generalizing c with
  | nil => exact h
  | cons x l ih => exact ih (crcX_range c x)
theorem crcN_succ (n : Nat) (c : Int) : crcN (n + 1) c = crcB (crcN n c) := by
  induction n generalizing c with
  | zero => rfl
  | succ n ih => rw [crcN, ih]; rfl
theorem crcL_snoc (c : Int) (l : List Int) (x : Int) : crcL c (l ++ [x]) = crcX (crcL c l) x := by
  unfold crcL; rw [List.foldl_append]; rfl
theorem crcF_range (l : List Int) : 0 ≤ crcF l ∧ crcF l < 4294967296 := bits32 _ _ _
end Go.Proofs.YtmldighidbfhhaaDoor
namespace Go.Proofs.YtmldighidbfhhaaDoor
open Go Go.RowKit
set_option linter.unusedVariables false

/-- Something that lies in blocks of its own. -/
structure Part where
  at_ : World → List Nat → Prop
  lt : ∀ {w fp}, at_ w fp → ∀ x ∈ fp, x < w.heap.size
  kept : ∀ {own w w' fp}, at_ w fp → Kept own w w' → (∀ x ∈ fp, x ∉ own) → at_ w' fp

/-- Nothing. -/
def Part.emp : Part := ⟨fun _ fp => fp = [], fun h x hx => by simp [h] at hx, fun h _ _ => h⟩

/-- One beside the other. -/
def Part.sep (A B : Part) : Part where
  at_ w fp := ∃ f g, A.at_ w f ∧ B.at_ w g ∧ (∀ x ∈ f, x ∉ g) ∧ fp = f ++ g
  lt := by
    rintro w fp ⟨f, g, hA, hB, _, rfl⟩ x hx
    rcases List.mem_append.1 hx with h | h
    · exact A.lt hA x h
    · exact B.lt hB x h
  kept := by
    rintro own w w' fp ⟨f, g, hA, hB, hd, rfl⟩ k hn
    exact ⟨f, g, A.kept hA k fun x hx => hn x (by simp [hx]), B.kept hB k fun x hx => hn x (by simp [hx]), hd, rfl⟩

/-- A first world's blocks but those of o stand; the part lies in o or was made since. -/
def Has (o : List Nat) (w0 w : World) (A : Part) : Prop := ∃ fp, A.at_ w fp ∧ (∀ x ∈ fp, x ∈ o ∨ w0.heap.size ≤ x) ∧ Kept o w0 w

variable {o : List Nat} {w0 w w' : World} {A B C : Part} {fp : List Nat} {n : Nat} {f g : Nat → Part}

theorem Has.keeps (h : Has o w0 w A) : Kept o w0 w := by
  obtain ⟨_, _, _, k⟩ := h
  exact k

/-- What one part's call leaves: the part in its old blocks or in new ones, all else as it was. -/
theorem Has.step (hA : ∀ x ∈ fp, x ∈ o ∨ w0.heap.size ≤ x) (k : Kept o w0 w) (h : Has fp w w' B) : Has o w0 w' B := by
  obtain ⟨fp', hB, hn, k'⟩ := h
  refine ⟨fp', hB, ?_, k.trans k' fun j hj m => (hA j m).resolve_right (by omega)⟩
  intro x hx
  rcases hn x hx with h | h
  · exact hA x h
  · right; have := k.size; omega

theorem Has.refl (h : A.at_ w fp) : Has fp w w A := ⟨fp, h, fun x hx => .inl hx, Kept.refl _ _⟩

theorem Has.quiet (h : Has o w0 w A) (k : Kept [] w w') : Has o w0 w' A := by
  obtain ⟨fp, hA, hn, k0⟩ := h
  exact ⟨fp, A.kept hA k (by simp), hn, k0.trans k (by simp)⟩
theorem Has.alloc (h : Has o w0 w A) (ob : Obj) : Has o w0 (w.alloc ob) A := h.quiet ((Kept.refl [] w).alloc ob)
theorem Has.drewN (h : Has o w0 w A) (n : Nat) : Has o w0 (w.drewN n) A := h.quiet ((Kept.refl [] w).drewN n)

/-- The left part alone, and back. -/
theorem Has.left (h : Has o w0 w (A.sep B)) : ∃ o', Has o' w w A ∧ (∀ x ∈ o', x ∈ o ∨ w0.heap.size ≤ x) ∧ (∀ x ∈ o', x < w.heap.size) ∧ ∀ w' A', Has o' w w' A' → Has o w0 w' (A'.sep B) := by
  obtain ⟨fp, ⟨f, g, hA, hB, hd, rfl⟩, hn, k⟩ := h
  refine ⟨f, .refl hA, fun x hx => hn x (by simp [hx]), A.lt hA, ?_⟩
  rintro w' A' ⟨f', hA', hn', k'⟩
  refine ⟨f' ++ g, ⟨f', g, hA', B.kept hB k' fun x hx hx' => hd x hx' hx, ?_, rfl⟩, ?_, k.trans k' fun j hj m => (hn j (by simp [m])).resolve_right (by omega)⟩
  · intro x hx hx'
    rcases hn' x hx with h | h
    · exact hd x h hx'
    · have := B.lt hB x hx'; omega
  · intro x hx
    rcases List.mem_append.1 hx with hx | hx
    · rcases hn' x hx with h | h
      · exact hn x (by simp [h])
      · right; have := k.size; omega
    · exact hn x (by simp [hx])

theorem Has.swap (h : Has o w0 w (A.sep B)) : Has o w0 w (B.sep A) := by
  obtain ⟨fp, ⟨f, g, hA, hB, hd, rfl⟩, hn, k⟩ := h
  exact ⟨g ++ f, ⟨g, f, hB, hA, fun x hx hx' => hd x hx' hx, rfl⟩, fun x hx => hn x (by simp at hx ⊢; exact hx.symm), k⟩

theorem Has.assoc (h : Has o w0 w ((A.sep B).sep C)) : Has o w0 w (A.sep (B.sep C)) := by
  obtain ⟨fp, ⟨f, g, ⟨a, b, hA, hB, hd, rfl⟩, hC, hd', rfl⟩, hn, k⟩ := h
  refine ⟨a ++ (b ++ g), ⟨a, b ++ g, hA, ⟨b, g, hB, hC, fun x hx => hd' x (by simp [hx]), rfl⟩, ?_, rfl⟩, fun x hx => hn x (by simpa using hx), k⟩
  intro x hx hx'
  rcases List.mem_append.1 hx' with h | h
  · exact hd x hx h
  · exact hd' x (by simp [hx]) h

theorem Has.assoc' (h : Has o w0 w (A.sep (B.sep C))) : Has o w0 w ((A.sep B).sep C) := by
  obtain ⟨fp, ⟨a, bg, hA, ⟨b, g, hB, hC, hd', rfl⟩, hd, rfl⟩, hn, k⟩ := h
  refine ⟨(a ++ b) ++ g, ⟨a ++ b, g, ⟨a, b, hA, hB, fun x hx hx' => hd x hx (by simp [hx']), rfl⟩, hC, ?_, rfl⟩, fun x hx => hn x (by simpa using hx), k⟩
  intro x hx hx'
  rcases List.mem_append.1 hx with h | h
  · exact hd x h (by simp [hx'])
  · exact hd' x h hx'

/-- The right part alone, and back. -/
theorem Has.right (h : Has o w0 w (A.sep B)) : ∃ o', Has o' w w B ∧ (∀ x ∈ o', x ∈ o ∨ w0.heap.size ≤ x) ∧ (∀ x ∈ o', x < w.heap.size) ∧ ∀ w' B', Has o' w w' B' → Has o w0 w' (A.sep B') := by
  obtain ⟨o', h1, h2, h3, h4⟩ := h.swap.left
  exact ⟨o', h1, h2, h3, fun w' B' h => (h4 w' B' h).swap⟩

theorem Has.fst (h : Has o w0 w (A.sep B)) : Has o w0 w A := by
  obtain ⟨fp, ⟨f, g, hA, hB, hd, rfl⟩, hn, k⟩ := h
  exact ⟨f, hA, fun x hx => hn x (by simp [hx]), k⟩

theorem Has.mono (h : Has o w0 w A) (e : ∀ fp, A.at_ w fp → B.at_ w fp) : Has o w0 w B := by
  obtain ⟨fp, hA, hn, k⟩ := h
  exact ⟨fp, e fp hA, hn, k⟩

/-- A new part beside. -/
theorem Has.beside (h : Has o w0 w A) (hB : Has [] w w' B) : Has o w0 w' (A.sep B) := by
  obtain ⟨fp, hA, hn, k⟩ := h
  obtain ⟨g, hg, hgn, k'⟩ := hB
  have hg' : ∀ x ∈ g, w.heap.size ≤ x := fun x hx => (hgn x hx).resolve_left (by simp)
  refine ⟨fp ++ g, ⟨fp, g, A.kept hA k' (by simp), hg, fun x hx hx' => absurd (A.lt hA x hx) (by have := hg' x hx'; omega), rfl⟩, ?_, k.trans k' (by simp)⟩
  intro x hx
  rcases List.mem_append.1 hx with h | h
  · exact hn x h
  · right; have := k.size; have := hg' x h; omega

/-- A block of plain cells. -/
def Part.blk (b n : Nat) (T : TypeId) (f : Nat → Value) : Part where
  at_ w fp := Blk w b n T f ∧ fp = [b]
  lt := by rintro w fp ⟨h, rfl⟩ x hx; simp at hx; subst hx; exact h.lt
  kept := by rintro own w w' fp ⟨h, rfl⟩ k hn; exact ⟨k.blk h (hn b (by simp)), rfl⟩

/-- A row that a slice owns. -/
def Part.row (e : TypeId) (size : Nat) (v : Value) (n : Nat) (xs : List Value) : Part where
  at_ w fp := w.ownsRow 0 e size v n xs ∧ fp = rowsOf v
  lt := by
    rintro w fp ⟨h, rfl⟩ x hx
    rw [mem_rowsOf] at hx
    rcases h.2 with ⟨rfl, _⟩ | ⟨g, cap, cur, rfl, _, hg, _⟩
    · simp [Value.ownBlock] at hx
    · simp [Value.ownBlock] at hx; subst hx; exact (Array.getElem?_eq_some_iff.1 hg).1
  kept := by rintro own w w' fp ⟨h, rfl⟩ k hn; exact ⟨k.row h fun j hj => hn j (mem_rowsOf.2 hj), rfl⟩

/-- Many, one for each number below n. -/
def Part.all (n : Nat) (f : Nat → Part) : Part where
  at_ w fp := ∃ F : Nat → List Nat, (∀ i, i < n → (f i).at_ w (F i)) ∧ (∀ i j, i < n → j < n → i ≠ j → ∀ x ∈ F i, x ∉ F j) ∧ ∀ x, x ∈ fp ↔ ∃ i, i < n ∧ x ∈ F i
  lt := by
    rintro w fp ⟨F, h, hd, hm⟩ x hx
    obtain ⟨i, hi, hx⟩ := (hm x).1 hx
    exact (f i).lt (h i hi) x hx
  kept := by
    rintro own w w' fp ⟨F, h, hd, hm⟩ k hn
    exact ⟨F, fun i hi => (f i).kept (h i hi) k fun x hx => hn x ((hm x).2 ⟨i, hi, hx⟩), hd, hm⟩

def updP (f : Nat → Part) (i : Nat) (A : Part) : Nat → Part := fun j => if j = i then A else f j

theorem Has.pick (h : Has o w0 w (.all n f)) {i : Nat} (hi : i < n) : ∃ o', Has o' w w (f i) ∧ (∀ x ∈ o', x ∈ o ∨ w0.heap.size ≤ x) ∧ (∀ x ∈ o', x < w.heap.size) ∧ ∀ w' A', Has o' w w' A' → Has o w0 w' (.all n (updP f i A')) := by
  obtain ⟨fp, ⟨F, h, hd, hm⟩, hn, k⟩ := h
  refine ⟨F i, .refl (h i hi), fun x hx => hn x ((hm x).2 ⟨i, hi, hx⟩), (f i).lt (h i hi), ?_⟩
  rintro w' A' ⟨f', hA', hn', k'⟩
  let F' : Nat → List Nat := fun j => if j = i then f' else F j
  refine ⟨(List.range n).flatMap F', ⟨F', ?_, ?_, fun x => by simp⟩, ?_, k.trans k' fun j hj m => (hn j ((hm j).2 ⟨i, hi, m⟩)).resolve_right (by omega)⟩
  · intro j hj
    by_cases e : j = i
    · subst e
      simpa [F', updP] using hA'
    · simp only [F', updP, if_neg e]
      exact (f j).kept (h j hj) k' fun x hx => hd j i hj hi e x hx
  · intro a b ha hb hne x hx hx'
    by_cases ea : a = i
    · have eb : b ≠ i := by omega
      simp only [F', if_pos ea] at hx
      simp only [F', if_neg eb] at hx'
      rcases hn' x hx with h1 | h1
      · exact hd i b hi hb (by omega) x h1 hx'
      · have := (f b).lt (h b hb) x hx'; omega
    · simp only [F', if_neg ea] at hx
      by_cases eb : b = i
      · simp only [F', if_pos eb] at hx'
        rcases hn' x hx' with h1 | h1
        · exact hd a i ha hi (by omega) x hx h1
        · have := (f a).lt (h a ha) x hx; omega
      · simp only [F', if_neg eb] at hx'
        exact hd a b ha hb hne x hx hx'
  · intro x hx
    simp only [List.mem_flatMap, List.mem_range] at hx
    obtain ⟨j, hj, hx⟩ := hx
    by_cases e : j = i
    · simp only [F', if_pos e] at hx
      rcases hn' x hx with h1 | h1
      · exact hn x ((hm x).2 ⟨i, hi, h1⟩)
      · right; have := k.size; omega
    · simp only [F', if_neg e] at hx
      exact hn x ((hm x).2 ⟨j, hj, hx⟩)

/-- One more. -/
theorem Has.more (h : Has o w0 w (.all n f)) (hB : Has [] w w' (f n)) : Has o w0 w' (.all (n + 1) f) := by
  obtain ⟨fp, ⟨F, h, hd, hm⟩, hn, k⟩ := h
  obtain ⟨g, hg, hgn, k'⟩ := hB
  have hg' : ∀ x ∈ g, w.heap.size ≤ x := fun x hx => (hgn x hx).resolve_left (by simp)
  let F' : Nat → List Nat := fun j => if j = n then g else F j
  refine ⟨(List.range (n + 1)).flatMap F', ⟨F', ?_, ?_, fun x => by simp⟩, ?_, k.trans k' (by simp)⟩
  · intro j hj
    by_cases e : j = n
    · subst e
      simpa [F'] using hg
    · simp only [F', if_neg e]
      exact (f j).kept (h j (by omega)) k' (by simp)
  · intro a b ha hb hne x hx hx'
    by_cases ea : a = n
    · have eb : b ≠ n := by omega
      simp only [F', if_pos ea] at hx
      simp only [F', if_neg eb] at hx'
      have := hg' x hx
      have := (f b).lt (h b (by omega)) x hx'; omega
    · simp only [F', if_neg ea] at hx
      by_cases eb : b = n
      · simp only [F', if_pos eb] at hx'
        have := hg' x hx'
        have := (f a).lt (h a (by omega)) x hx; omega
      · simp only [F', if_neg eb] at hx'
        exact hd a b (by omega) (by omega) hne x hx hx'
  · intro x hx
    simp only [List.mem_flatMap, List.mem_range] at hx
    obtain ⟨j, hj, hx⟩ := hx
    by_cases e : j = n
    · simp only [F', if_pos e] at hx
      right; have := k.size; have := hg' x hx; omega
    · simp only [F', if_neg e] at hx
      exact hn x ((hm x).2 ⟨j, by omega, hx⟩)

theorem Has.congr (h : Has o w0 w (.all n f)) (e : ∀ i, i < n → f i = g i) : Has o w0 w (.all n g) := by
  refine h.mono ?_
  rintro fp ⟨F, h, hd, hm⟩
  exact ⟨F, fun i hi => e i hi ▸ h i hi, hd, hm⟩

theorem Has.nothing (f : Nat → Part) : Has [] w w (.all 0 f) := ⟨[], ⟨fun _ => [], fun i hi => by omega, fun i j hi => by omega, fun x => by simp⟩, by simp, Kept.refl _ _⟩

end Go.Proofs.YtmldighidbfhhaaDoor
namespace Go.Proofs.YtmldighidbfhhaaDoor
open Go Go.RowKit
set_option linter.unusedVariables false

/-- A store into a row of the call's own. -/
theorem row_put {w : World} {e : TypeId} {g n cap : Nat} {xs : List Value} (h : w.ownsRow 0 e 1 (.slice (some ⟨g, 0, none⟩) n cap) n xs) (k : Nat) (u : Value) (hk : k < n) :
    (w.setCell ⟨g, k, none⟩ u).ownsRow 0 e 1 (.slice (some ⟨g, 0, none⟩) n cap) n (xs.set k u) := by
  obtain ⟨hl, h1 | ⟨g', cap', cur, hv', h0, hg, h2, h3, h4, h5⟩⟩ := h
  · cases h1.1
  · cases hv'
    refine ⟨by simpa using hl, .inr ⟨g, cap, cur.setIfInBounds k u, rfl, Nat.zero_le _, ?_, h2, h3, by simpa using h4, ?_⟩⟩
    · simp [World.setCell, Array.getElem?_modify, hg]
    · simp only [Array.toList_setIfInBounds]
      rw [← h5, Nat.mul_one, List.take_set]

/-- A store elsewhere. -/
theorem row_other {w : World} {e : TypeId} {n : Nat} {v : Value} {xs : List Value} (h : w.ownsRow 0 e 1 v n xs) {a : Addr} (u : Value) (hne : v.ownBlock ≠ some a.block) : (w.setCell a u).ownsRow 0 e 1 v n xs := by
  obtain ⟨hl, h1 | ⟨g', cap', cur, rfl, h0, hg, h2, h3, h4, h5⟩⟩ := h
  · exact ⟨hl, .inl h1⟩
  · refine ⟨hl, .inr ⟨g', cap', cur, rfl, h0, ?_, h2, h3, h4, h5⟩⟩
    rw [Below.heap_setCell w a u g' (fun e => hne (by simp [Value.ownBlock, e]))]
    exact hg

/-- A row, spelt out: empty, or a slice with its cells. -/
theorem row_val {w : World} {e : TypeId} {v : Value} {n : Nat} {xs : List Value} (h : w.ownsRow 0 e 1 v n xs) :
    (v = .slice none 0 0 ∧ n = 0) ∨ ∃ g cap, v = .slice (some ⟨g, 0, none⟩) n cap ∧ n ≤ cap ∧ cap ≤ maxLen ∧ g < w.heap.size ∧ (∀ i, w.frozen? ⟨g, i, none⟩ = false) ∧ ∀ i u, xs[i]? = some u → w.cell? ⟨g, i, none⟩ = some u := by
  rcases h.2 with ⟨h1, h0⟩ | ⟨g, cap, cur, rfl, _, hg, hnc, hcm, hcs, htake⟩
  · exact .inl ⟨h1, h0⟩
  · refine .inr ⟨g, cap, rfl, hnc, hcm, (Array.getElem?_eq_some_iff.1 hg).1, fun i => by simp [World.frozen?, hg], fun i u hu => ?_⟩
    have := h.cells (g := g) rfl i u hu
    simp only [Addr.add] at this
    split at this
    · rename_i e0; subst e0; simpa using this
    · simpa using this

end Go.Proofs.YtmldighidbfhhaaDoor
namespace Go.Proofs.YtmldighidbfhhaaDoor
open Go Go.RowKit
set_option linter.unusedVariables false
variable {o : List Nat} {w0 w w' : World} {A B C : Part} {fp : List Nat} {n : Nat} {f g : Nat → Part}

/-- One part holds another one. -/
def Part.Imp (A B : Part) : Prop := ∀ w fp, A.at_ w fp → ∃ fp', B.at_ w fp' ∧ ∀ x ∈ fp', x ∈ fp

theorem Has.weaken (h : Has o w0 w A) (i : A.Imp B) : Has o w0 w B := by
  obtain ⟨fp, hA, hn, k⟩ := h
  obtain ⟨fp', hB, hs⟩ := i w fp hA
  exact ⟨fp', hB, fun x hx => hn x (hs x hx), k⟩

theorem Part.Imp.refl (A : Part) : A.Imp A := fun w fp h => ⟨fp, h, fun _ h => h⟩
theorem Part.Imp.fst (A B : Part) : (A.sep B).Imp A := by
  rintro w fp ⟨f, g, hA, hB, hd, rfl⟩
  exact ⟨f, hA, fun x hx => by simp [hx]⟩
theorem Part.Imp.snd (A B : Part) : (A.sep B).Imp B := by
  rintro w fp ⟨f, g, hA, hB, hd, rfl⟩
  exact ⟨g, hB, fun x hx => by simp [hx]⟩
theorem Part.Imp.trans {A B C : Part} (h : A.Imp B) (h' : B.Imp C) : A.Imp C := by
  intro w fp hA
  obtain ⟨f1, hB, s1⟩ := h w fp hA
  obtain ⟨f2, hC, s2⟩ := h' w f1 hB
  exact ⟨f2, hC, fun x hx => s1 x (s2 x hx)⟩
theorem Part.Imp.sep {A B A' B' : Part} (h : A.Imp A') (h' : B.Imp B') : (A.sep B).Imp (A'.sep B') := by
  rintro w fp ⟨f, g, hA, hB, hd, rfl⟩
  obtain ⟨f1, hA', s1⟩ := h w f hA
  obtain ⟨g1, hB', s2⟩ := h' w g hB
  refine ⟨f1 ++ g1, ⟨f1, g1, hA', hB', fun x hx hx' => hd x (s1 x hx) (s2 x hx'), rfl⟩, fun x hx => ?_⟩
  rcases List.mem_append.1 hx with h | h
  · simp [s1 x h]
  · simp [s2 x h]
theorem Part.Imp.all (h : ∀ i, i < n → (f i).Imp (g i)) : (Part.all n f).Imp (Part.all n g) := by
  rintro w fp ⟨F, hF, hd, hm⟩
  have hex : ∀ i, ∃ l, i < n → (g i).at_ w l ∧ ∀ x ∈ l, x ∈ F i := by
    intro i
    by_cases hi : i < n
    · obtain ⟨l, h1, h2⟩ := h i hi w (F i) (hF i hi)
      exact ⟨l, fun _ => ⟨h1, h2⟩⟩
    · exact ⟨[], fun h => absurd h hi⟩
  obtain ⟨G, hG⟩ := Classical.axiomOfChoice hex
  refine ⟨(List.range n).flatMap G, ⟨G, fun i hi => (hG i hi).1, fun i j hi hj hne x hx hx' => hd i j hi hj hne x ((hG i hi).2 x hx) ((hG j hj).2 x hx'), fun x => by simp⟩, ?_⟩
  intro x hx
  simp only [List.mem_flatMap, List.mem_range] at hx
  obtain ⟨i, hi, hx⟩ := hx
  exact (hm x).2 ⟨i, hi, (hG i hi).2 x hx⟩

/-- A row's numbers, as they are read. -/
def RowAt (w : World) (v : Value) (n : Nat) (xs : Nat → Value) : Prop :=
  ∃ p cap, v = .slice p n cap ∧ (0 < n → ∃ b off, p = some ⟨b, off, none⟩ ∧ b < w.heap.size ∧ ∀ i, i < n → w.cell? ⟨b, off + i, none⟩ = some (xs i))

theorem RowAt.kept {own : List Nat} {v : Value} {xs : Nat → Value} (h : RowAt w v n xs) (k : Kept own w w') (hown : ∀ x ∈ own, w.heap.size ≤ x) : RowAt w' v n xs := by
  obtain ⟨p, cap, rfl, h3⟩ := h
  refine ⟨p, cap, rfl, fun hp => ?_⟩
  obtain ⟨b, off, rfl, hb, hc⟩ := h3 hp
  exact ⟨b, off, rfl, Nat.lt_of_lt_of_le hb k.size, fun i hi => k.cell (hc i hi) fun m => by have := hown b m; omega⟩

theorem rowAt_of {e : TypeId} {v : Value} {xs : List Value} (h : w.ownsRow 0 e 1 v n xs) (f : Nat → Value) (hf : ∀ i, i < n → xs[i]? = some (f i)) : RowAt w v n f := by
  rcases row_val h with ⟨h1, h0⟩ | ⟨g, cap, h1, _, _, hg, _, hc⟩
  · exact ⟨none, 0, by rw [h1, h0], fun h => by omega⟩
  · exact ⟨_, cap, h1, fun _ => ⟨g, 0, rfl, hg, fun i hi => by rw [Nat.zero_add]; exact hc i _ (hf i hi)⟩⟩

theorem Has.rowAt {e : TypeId} {v : Value} {xs : List Value} (h : Has o w0 w (.row e 1 v n xs)) (f : Nat → Value) (hf : ∀ i, i < n → xs[i]? = some (f i)) : RowAt w v n f := by
  obtain ⟨fp, ⟨hr, _⟩, _⟩ := h
  exact rowAt_of hr f hf

/-- An append to a row of the call's own. -/
theorem Has.appendRow {w5 : World} {m len : Nat} {e : TypeId} {v v' : Value} {xs news : List Value} (ob : Obj)
    (h : Has o w0 w (.row e 1 v len xs)) (happ : Appended (w.alloc ob) w5 e 1 v v' (len + m) (xs ++ news)) :
    Has o w0 w5 (.row e 1 v' (len + m) (xs ++ news)) := by
  obtain ⟨fp, ⟨hr, rfl⟩, hn, k⟩ := h
  have k1 : Kept (rowsOf v) w w5 := ((Kept.refl _ w).alloc ob).grown happ.grown fun b _ e => by simp [mem_rowsOf, e]
  refine Has.step hn k ⟨rowsOf v', ⟨happ.row, rfl⟩, ?_, k1⟩
  intro x hx
  rw [mem_rowsOf] at hx ⊢
  rcases happ.place with e | e
  · rw [e] at hx; exact .inl hx
  · rw [e] at hx
    simp only [Option.some.injEq] at hx
    right
    have : (w.alloc ob).heap.size = w.heap.size + 1 := by simp
    omega

/-- A store into a row of the call's own. -/
theorem Has.setRow {gb cap len : Nat} {e : TypeId} {xs : List Value} (h : Has o w0 w (.row e 1 (.slice (some ⟨gb, 0, none⟩) len cap) len xs)) (k : Nat) (u : Value) (hk : k < len) :
    Has o w0 (w.setCell ⟨gb, k, none⟩ u) (.row e 1 (.slice (some ⟨gb, 0, none⟩) len cap) len (xs.set k u)) := by
  obtain ⟨fp, ⟨hr, rfl⟩, hn, k0⟩ := h
  refine Has.step hn k0 ⟨_, ⟨row_put hr k u hk, rfl⟩, fun x hx => .inl hx, (Kept.refl _ w).set _ (by simp [rowsOf, Value.ownBlock])⟩

/-- A cell of a row that may be stored to. -/
theorem Has.rowCell {gb cap len : Nat} {e : TypeId} {xs : List Value} (h : Has o w0 w (.row e 1 (.slice (some ⟨gb, 0, none⟩) len cap) len xs)) (k : Nat) (u : Value) (hk : xs[k]? = some u) :
    w.cell? ⟨gb, k, none⟩ = some u ∧ w.frozen? ⟨gb, k, none⟩ = false := by
  obtain ⟨fp, ⟨hr, rfl⟩, hn, k0⟩ := h
  rcases row_val hr with ⟨h1, h0⟩ | ⟨g, cap', h1, _, _, hg, hf, hc⟩
  · cases h1
  · cases h1
    exact ⟨hc k u hk, hf k⟩

/-- A row just made. -/
theorem Has.made (e : TypeId) (cs : Array Value) (h : cs.size ≤ maxLen) : Has [] w (w.alloc (.cells cs e)) (.row e 1 (.slice (some ⟨w.heap.size, 0, none⟩) cs.size cs.size) cs.size cs.toList) := by
  refine ⟨[w.heap.size], ⟨?_, rfl⟩, by simp, (Kept.refl [] w).alloc _⟩
  exact World.ownsRow_lit w cs cs.size (Nat.zero_le _) h (by simp)

theorem Has.madeBlk (cs : Array Value) (T : TypeId) (f : Nat → Value) (m : Nat) (hn : cs.size = m) (hf : ∀ i, i < m → cs[i]? = some (f i)) : Has [] w (w.alloc (.cells cs T)) (.blk w.heap.size m T f) :=
  ⟨[w.heap.size], ⟨Blk.made w cs T f m hn hf, rfl⟩, by simp, (Kept.refl [] w).alloc _⟩

end Go.Proofs.YtmldighidbfhhaaDoor
namespace Go.Proofs.YtmldighidbfhhaaDoor
open Go Go.RowKit
set_option linter.unusedVariables false
variable {o : List Nat} {w0 w w' : World} {A B : Part} {fp : List Nat} {n k : Nat}

theorem addr0 (b i : Nat) : (⟨b, 0, none⟩ : Addr).add i = ⟨b, i, none⟩ := by
  simp only [Addr.add]
  split
  · rename_i h; subst h; rfl
  · simp

theorem rowN_open {e : TypeId} {size : Nat} {v : Value} {xs : List Value} (h : w.ownsRow 0 e size v n xs) :
    (v = .slice none 0 0 ∧ n = 0) ∨ ∃ g cap, v = .slice (some ⟨g, 0, none⟩) n cap ∧ n ≤ cap ∧ cap ≤ maxLen ∧ g < w.heap.size ∧ (∀ i, w.frozen? ⟨g, i, none⟩ = false) ∧ ∀ i u, xs[i]? = some u → w.cell? ⟨g, i, none⟩ = some u := by
  rcases h.2 with ⟨h1, h0⟩ | ⟨g, cap, cur, rfl, _, hg, hnc, hcm, hcs, htake⟩
  · exact .inl ⟨h1, h0⟩
  · refine .inr ⟨g, cap, rfl, hnc, hcm, (Array.getElem?_eq_some_iff.1 hg).1, fun i => by simp [World.frozen?, hg], fun i u hu => ?_⟩
    have := h.cells (g := g) rfl i u hu
    rwa [addr0] at this

theorem rowN_store {e : TypeId} {size g cap : Nat} {xs : List Value} (h : w.ownsRow 0 e size (.slice (some ⟨g, 0, none⟩) n cap) n xs) (j : Nat) (u : Value) :
    (w.setCell ⟨g, j, none⟩ u).ownsRow 0 e size (.slice (some ⟨g, 0, none⟩) n cap) n (xs.set j u) := by
  obtain ⟨hl, h1 | ⟨g', cap', cur, hv', h0, hg, h2, h3, h4, h5⟩⟩ := h
  · cases h1.1
  · cases hv'
    refine ⟨by simpa using hl, .inr ⟨g, cap, cur.setIfInBounds j u, rfl, Nat.zero_le _, ?_, h2, h3, by simpa using h4, ?_⟩⟩
    · simp [World.setCell, Array.getElem?_modify, hg]
    · simp only [Array.toList_setIfInBounds]
      rw [← h5, List.take_set]

theorem Has.rowStore {g cap len size : Nat} {e : TypeId} {xs : List Value} (h : Has o w0 w (.row e size (.slice (some ⟨g, 0, none⟩) len cap) len xs)) (j : Nat) (u : Value) :
    Has o w0 (w.setCell ⟨g, j, none⟩ u) (.row e size (.slice (some ⟨g, 0, none⟩) len cap) len (xs.set j u)) := by
  obtain ⟨fp, ⟨hr, rfl⟩, hn, k0⟩ := h
  exact Has.step hn k0 ⟨_, ⟨rowN_store hr j u, rfl⟩, fun x hx => .inl hx, (Kept.refl _ w).set _ (by simp [rowsOf, Value.ownBlock])⟩

theorem Has.rowAppend {w5 : World} {m len size : Nat} {e : TypeId} {v v' : Value} {xs news : List Value} (ob : Obj)
    (h : Has o w0 w (.row e size v len xs)) (happ : Appended (w.alloc ob) w5 e size v v' (len + m) (xs ++ news)) :
    Has o w0 w5 (.row e size v' (len + m) (xs ++ news)) := by
  obtain ⟨fp, ⟨hr, rfl⟩, hn, k⟩ := h
  have k1 : Kept (rowsOf v) w w5 := ((Kept.refl _ w).alloc ob).grown happ.grown fun b _ e => by simp [mem_rowsOf, e]
  refine Has.step hn k ⟨rowsOf v', ⟨happ.row, rfl⟩, ?_, k1⟩
  intro x hx
  rw [mem_rowsOf] at hx ⊢
  rcases happ.place with e | e
  · rw [e] at hx; exact .inl hx
  · rw [e] at hx
    simp only [Option.some.injEq] at hx
    right
    have : (w.alloc ob).heap.size = w.heap.size + 1 := by simp
    omega

/-- Elements laid one behind the other. -/
def flatN (n : Nat) (f : Nat → List Value) : List Value := (List.range n).flatMap f

theorem flatN_succ (n : Nat) (f : Nat → List Value) : flatN (n + 1) f = flatN n f ++ f n := by
  unfold flatN
  rw [List.range_succ, List.flatMap_append, List.flatMap_singleton]

theorem flatN_len {f : Nat → List Value} (hk : ∀ i, (f i).length = k) (n : Nat) : (flatN n f).length = n * k := by
  induction n with
  | zero => simp [flatN]
  | succ n ih => rw [flatN_succ, List.length_append, ih, hk, Nat.succ_mul]

theorem flatN_congr {f g : Nat → List Value} (h : ∀ i, i < n → f i = g i) : flatN n f = flatN n g := by
  induction n with
  | zero => rfl
  | succ n ih => rw [flatN_succ, flatN_succ, ih fun i hi => h i (by omega), h n (by omega)]

theorem flatN_get {f : Nat → List Value} (hk : ∀ i, (f i).length = k) {i j : Nat} (hi : i < n) (hj : j < k) : (flatN n f)[i * k + j]? = (f i)[j]? := by
  induction n with
  | zero => omega
  | succ n ih =>
    rw [flatN_succ]
    have hl := flatN_len hk n
    by_cases e : i < n
    · have : (i + 1) * k ≤ n * k := Nat.mul_le_mul_right k e
      rw [List.getElem?_append_left (by rw [hl]; rw [Nat.succ_mul] at this; omega)]
      exact ih e
    · obtain rfl : i = n := by omega
      rw [List.getElem?_append_right (by rw [hl]; omega), hl]
      congr 1
      omega

theorem flatN_set {f : Nat → List Value} (hk : ∀ i, (f i).length = k) {i j : Nat} (hi : i < n) (hj : j < k) (u : Value) : (flatN n f).set (i * k + j) u = flatN n (fun d => if d = i then (f i).set j u else f d) := by
  induction n with
  | zero => omega
  | succ n ih =>
    rw [flatN_succ, flatN_succ]
    have hl := flatN_len hk n
    by_cases e : i < n
    · have : (i + 1) * k ≤ n * k := Nat.mul_le_mul_right k e
      rw [List.set_append_left _ _ (by rw [hl]; rw [Nat.succ_mul] at this; omega), ih e, if_neg (by omega)]
    · obtain rfl : i = n := by omega
      rw [List.set_append_right _ _ (by rw [hl]; omega), hl, if_pos rfl, flatN_congr (g := fun d => if d = i then (f i).set j u else f d) fun d hd => by rw [if_neg (by omega)]]
      congr 2
      omega

noncomputable def Part.rows (e : TypeId) (k : Nat) (v : Value) (n : Nat) (f : Nat → List Value) : Part := .row e k v n (flatN n f)

theorem rows_congr {e : TypeId} {v : Value} {f g : Nat → List Value} (h : ∀ i, i < n → f i = g i) : Part.rows e k v n f = Part.rows e k v n g := by
  unfold Part.rows
  rw [flatN_congr h]

theorem Has.rowsOwn {e : TypeId} {v : Value} {f : Nat → List Value} (h : Has o w0 w (.rows e k v n f)) : w.ownsRow 0 e k v n (flatN n f) := by
  obtain ⟨fp, ⟨hr, _⟩, _⟩ := h
  exact hr

theorem Has.rowsSlice {e : TypeId} {v : Value} {f : Nat → List Value} (h : Has o w0 w (.rows e k v n f)) : ∃ p c, v = .slice p n c := by
  rcases rowN_open h.rowsOwn with ⟨e, h0⟩ | ⟨g, c, e, _⟩
  · exact ⟨none, 0, by rw [h0]; exact e⟩
  · exact ⟨_, c, e⟩

theorem Has.rowsSmall {e : TypeId} {v : Value} {f : Nat → List Value} (h : Has o w0 w (.rows e k v n f)) : n ≤ maxLen := by
  rcases rowN_open h.rowsOwn with ⟨e, h0⟩ | ⟨g, c, e, h1, h2, _⟩
  · rw [h0]; exact Nat.zero_le _
  · exact Nat.le_trans h1 h2

/-- An element's cells, and stores to them. -/
theorem Has.rowsAt {e : TypeId} {v : Value} {f : Nat → List Value} (h : Has o w0 w (.rows e k v n f)) (hk : ∀ i, (f i).length = k) {i : Nat} (hi : i < n) :
    ∃ g cap, v = .slice (some ⟨g, 0, none⟩) n cap ∧ (∀ j u, (f i)[j]? = some u → w.cell? ⟨g, i * k + j, none⟩ = some u) ∧ (∀ j, w.frozen? ⟨g, j, none⟩ = false) ∧
      ∀ j u, j < k → Has o w0 (w.setCell ⟨g, i * k + j, none⟩ u) (.rows e k v n (fun d => if d = i then (f i).set j u else f d)) := by
  rcases rowN_open h.rowsOwn with ⟨e, h0⟩ | ⟨g, cap, rfl, _, _, _, hf, hc⟩
  · omega
  · refine ⟨g, cap, rfl, fun j u hu => hc _ _ ?_, hf, fun j u hj => ?_⟩
    · have hj : j < k := by rw [← hk i]; exact (List.getElem?_eq_some_iff.1 hu).1
      rw [flatN_get hk hi hj, hu]
    · have := Has.rowStore h (i * k + j) u
      rwa [flatN_set hk hi hj u] at this

/-- One more element. -/
theorem Has.rowsMore {w5 : World} {e : TypeId} {v v' : Value} {f : Nat → List Value} {x : List Value} (ob : Obj) (h : Has o w0 w (.rows e k v n f)) (happ : Appended (w.alloc ob) w5 e k v v' (n + 1) (flatN n f ++ x)) :
    Has o w0 w5 (.rows e k v' (n + 1) (fun d => if d = n then x else f d)) := by
  have := Has.rowAppend ob h happ
  unfold Part.rows
  rw [flatN_succ, if_pos rfl, flatN_congr (g := f) fun i hi => if_neg (by omega)]
  exact this

theorem Has.rowsNil (w : World) (e : TypeId) (k : Nat) (f : Nat → List Value) : Has [] w w (.rows e k (.slice none 0 0) 0 f) := ⟨[], ⟨World.ownsRow_nil _ _ _ _, by simp [rowsOf, Value.ownBlock]⟩, by simp, Kept.refl _ _⟩

/-- A part whose content is hidden. -/
def Part.ex {α : Type} (f : α → Part) : Part where
  at_ w fp := ∃ a, (f a).at_ w fp
  lt := by rintro w fp ⟨a, h⟩ x hx; exact (f a).lt h x hx
  kept := by rintro own w w' fp ⟨a, h⟩ k hn; exact ⟨a, (f a).kept h k hn⟩

/-- A part of which something is so. -/
def Part.when (p : Prop) (A : Part) : Part where
  at_ w fp := p ∧ A.at_ w fp
  lt := by rintro w fp ⟨_, h⟩ x hx; exact A.lt h x hx
  kept := by rintro own w w' fp ⟨hp, h⟩ k hn; exact ⟨hp, A.kept h k hn⟩

theorem Has.exOut {α : Type} {f : α → Part} (h : Has o w0 w (.ex f)) : ∃ a, Has o w0 w (f a) := by
  obtain ⟨fp, ⟨a, h⟩, hn, k⟩ := h
  exact ⟨a, fp, h, hn, k⟩
theorem Has.exIn {α : Type} {f : α → Part} (a : α) (h : Has o w0 w (f a)) : Has o w0 w (.ex f) := by
  obtain ⟨fp, h, hn, k⟩ := h
  exact ⟨fp, ⟨a, h⟩, hn, k⟩
theorem Has.whenOut {p : Prop} (h : Has o w0 w (.when p A)) : p ∧ Has o w0 w A := by
  obtain ⟨fp, ⟨hp, h⟩, hn, k⟩ := h
  exact ⟨hp, fp, h, hn, k⟩
theorem Has.whenIn {p : Prop} (hp : p) (h : Has o w0 w A) : Has o w0 w (.when p A) := by
  obtain ⟨fp, h, hn, k⟩ := h
  exact ⟨fp, ⟨hp, h⟩, hn, k⟩

/-- A block's cells, and stores to them. -/
theorem Has.blkAt {b : Nat} {T : TypeId} {f : Nat → Value} (h : Has o w0 w (.blk b n T f)) {i : Nat} (hi : i < n) :
    w.cell? ⟨b, i, none⟩ = some (f i) ∧ w.frozen? ⟨b, i, none⟩ = false ∧ ∀ u, Has o w0 (w.setCell ⟨b, i, none⟩ u) (.blk b n T (upd f i u)) := by
  obtain ⟨fp, ⟨hb, rfl⟩, hn, k⟩ := h
  exact ⟨hb.cell hi, hb.free i, fun u => Has.step hn k ⟨[b], ⟨hb.set i u, rfl⟩, fun x hx => .inl hx, (Kept.refl _ w).set _ (by simp)⟩⟩
end Go.Proofs.YtmldighidbfhhaaDoor
namespace Go.Proofs.YtmldighidbfhhaaDoor
open Go Go.RowKit
set_option linter.unusedVariables false

/-- An arena's struct as it is made. -/
def arList (n : Nat) : List Value := .int .i64 0 :: .slice none 0 0 :: (List.replicate n (Value.int .u64 0) ++ [.int .i64 0, .int .i64 0, .int .i64 0])
def arCells : Array Value := (arList 1024).toArray

theorem arList_length (n : Nat) : (arList n).length = n + 5 := by simp [arList]
theorem arList_get (n i : Nat) (h0 : i ≠ 0) (hi : i < n + 5) : (arList n)[i]? = some (if i = 1 then .slice none 0 0 else if i < n + 2 then .int .u64 0 else .int .i64 0) := by
  obtain ⟨j, rfl⟩ : ∃ j, i = j + 1 := ⟨i - 1, by omega⟩
  unfold arList
  rw [List.getElem?_cons_succ]
  by_cases h1 : j = 0
  · subst h1; simp
  obtain ⟨k, rfl⟩ : ∃ k, j = k + 1 := ⟨j - 1, by omega⟩
  rw [if_neg (by omega), List.getElem?_cons_succ]
  by_cases h2 : k < n
  · rw [if_pos (by omega), List.getElem?_append_left (by simpa using h2)]
    simp [h2]
  · rw [if_neg (by omega), List.getElem?_append_right (by simp; omega)]
    simp only [List.length_replicate]
    have : k - n = 0 ∨ k - n = 1 ∨ k - n = 2 := by omega
    rcases this with h | h | h <;> rw [h] <;> rfl

theorem arCells_zero (w : World) : (zeroValue 88).run Tryd.prog w = .ok (.agg arCells) w := by kernel_rfl
theorem arCells_size : arCells.size = 1029 := by unfold arCells; rw [List.size_toArray, arList_length]
theorem arCells_ne : (arCells = #[]) = False := by
  simp only [eq_iff_iff, iff_false]
  intro h
  have := arCells_size
  rw [h] at this
  simp at this

theorem arCells_get (size : Int) (i : Nat) (hi : i < 1029) : (arCells.setIfInBounds 0 (.int .i64 size))[i]? = some (arF size (.slice none 0 0) (fun _ => 0) 0 0 0 i) := by
  have hs := arCells_size
  by_cases h0 : i = 0
  · subst h0
    rw [Array.getElem?_setIfInBounds_self, if_pos (by omega)]; rfl
  · rw [Array.getElem?_setIfInBounds_ne (by omega)]
    unfold arCells arF
    rw [if_neg h0, List.getElem?_toArray, arList_get 1024 i h0 (by omega)]
    by_cases h1 : i = 1
    · rw [if_pos h1, if_pos h1]
    rw [if_neg h1, if_neg h1]
    by_cases h2 : i < 1026
    · rw [if_pos h2, if_pos h2]; rfl
    rw [if_neg h2, if_neg h2]
    repeat' split
    all_goals rfl

set_option maxHeartbeats 2000000 in
set_option maxRecDepth 100000 in
theorem new_walk (w : World) (size : Int) (h0 : 1 ≤ size) (h1 : size ≤ 65536) :
    Calls Tryd.prog 24 #[.int .i64 size] w fun e w' => e = .returned (.tuple #[.pointer (some ⟨w.heap.size, 0, none⟩), .int .i64 0]) ∧ w' = w.alloc (.cells (arCells.setIfInBounds 0 (.int .i64 size)) 88) := by
  have h2 : decide (size < 1) = false := by simp; omega
  have h3 : decide (size > 65536) = false := by simp; omega
  have hz := arCells_zero
  have hne := arCells_ne
  have hs := arCells_size
  go_enter Tryd.func24, Tryd.ntmps24
  go_wp2
  go_ret2
  exact ⟨rfl, rfl⟩

set_option maxHeartbeats 1000000 in
theorem new_walk_no (w : World) (size : Int) (h : size < 1 ∨ 65536 < size) :
    Calls Tryd.prog 24 #[.int .i64 size] w fun e w' => e = .returned (.tuple #[.pointer none, .int .i64 2]) ∧ w = w' := by
  rcases h with h | h
  · have h2 : decide (size < 1) = true := by simp; omega
    go_enter Tryd.func24, Tryd.ntmps24
    go_wp2
    go_ret2
    exact ⟨rfl, rfl⟩
  · have h2 : decide (size < 1) = false := by simp; omega
    have h3 : decide (size > 65536) = true := by simp; omega
    go_enter Tryd.func24, Tryd.ntmps24
    go_wp2
    go_ret2
    exact ⟨rfl, rfl⟩

set_option maxHeartbeats 1000000 in
theorem alloc_walk_full (w : World) (b : Nat) (size used : Int) (hc0 : w.cell? ⟨b, 0, none⟩ = some (.int .i64 size)) (hc4 : w.cell? ⟨b, 1027, none⟩ = some (.int .i64 used)) (he : (used == size) = true) :
    Calls Tryd.prog 31 #[.pointer (some ⟨b, 0, none⟩)] w fun e w' => e = .returned (.tuple #[.int .i64 0, .int .i64 31]) ∧ ∃ n, w' = w.drewN n := by
  go_enter Tryd.func31, Tryd.ntmps31
  go_wp2
  go_quiet (fail)
  go_wp2
  go_ret2
  exact ⟨rfl, _, rfl⟩

set_option maxHeartbeats 1000000 in
theorem used_walk (w : World) (b : Nat) (used : Int) (hc4 : w.cell? ⟨b, 1027, none⟩ = some (.int .i64 used)) :
    Calls Tryd.prog 22 #[.pointer (some ⟨b, 0, none⟩)] w fun e w' => e = .returned (.int .i64 used) ∧ w = w' := by
  go_enter Tryd.func22, Tryd.ntmps22
  go_wp2
  go_ret
  exact ⟨rfl, rfl⟩

end Go.Proofs.YtmldighidbfhhaaDoor
