/- The walks of New and Node.
The walks of chain and Chain.
The reference's store, over the same plain store, and its look-ups.
The walks of node where there is nothing to sweep, of Step, Gone and done; the statements' own 'shown'. -/
import Derived.Test.YtbodobdllchmgaaDoorMBetween4
import Derived.Deep.RegionHeldLaw
import Derived.Deep.RegionLaw
import Derived.Test.YtbodobdllchmgaaDoorMBetween3
namespace Go.Proofs.YtbodobdllchmgaaDoor
open Go Go.RowKit
set_option linter.unusedVariables false

variable {o : List Nat} {w0 w : World} {b : Nat} {A : ASt}

/-- An append to a row of one's own, as one step of a region that draws its order. -/
theorem step_append_new {P : Program} {ops : Array Oper} {o : Oper} {a : Act} {w : World} {K : Act → World → Prop} {Q : Exit → Act → World → Prop} {E : Prop}
    (hg : o.guard = none) (s x : Operand) (t : TypeId) (hop : o.op = Op.call { callee := Callee.builtin Builtin.append, args := #[s, x], argTypes := #[t, t] })
    (e : TypeId) (i : TypeInfo) (z : Value) (size bytes : Nat) (ht : P.underlying t = some (.slice e)) (hi : P.info? e = some i) (hz : i.zero = some z)
    (hsize : i.size = size) (hby : i.bytes = bytes) (hzs : z.cells.size = size) (hsz : 0 < size)
    (v : Value) (n : Nat) (xs : List Value) (hs : a.eval s = v) (hown : w.ownsRow 0 e size v n xs)
    (ad : Addr) (m c : Nat) (news : List Value) (hx : a.eval x = .slice (some ad) m c) (hl : news.length = m * size) (hnews : ∀ j u, news[j]? = some u → w.cell? (ad.add j) = some u) (h1 : ∀ u ∈ news, u.oneCell' = true)
    (h63 : n + m ≤ maxLen) (hbytes : (n + m) * bytes ≤ 140737488355328)
    (hK : ∀ v' w', Appended w w' e size v v' (n + m) (xs ++ news) → K (a.put o.dst v') w') :
    if Region.wanted o (yielded ops a.tmps) = true then Oper.wp P o a w K Q else E := by
  have hw : Region.wanted o (yielded ops a.tmps) = true := by simp [Region.wanted, hg]
  rw [if_pos hw]
  obtain ⟨v', w', hrun, h2⟩ := run_append_new (P := P) w t o.type e i z size bytes ht hi hz hsize hby hzs hsz v n xs hown ad m c news hl hnews h1 h63 hbytes
  unfold Oper.wp
  simp [execOp, hop, resolve, invoke, builtin, hs, hx, hrun, Result.andThen]
  exact hK v' w' h2

/-- A new store. -/
def newSt (ab size : Nat) (st : Int) : ASt := ⟨ab, size, st, 0, 0, 0, fun _ => (0, 0), fun _ => ⟨default, 0, 0, 0, true⟩, fun _ => (0, true)⟩

theorem newSt_at (ab size : Nat) (st : Int) (l : Loc) : (newSt ab size st).at_ l = none := by cases l <;> rfl

theorem cnt_none (n : Nat) : cnt (fun _ => none) n = 0 := by
  induction n with
  | zero => rfl
  | succ n ih => unfold cnt; rw [ih]; rfl

theorem newSt_rep (ab size : Nat) (hs : size ≤ 65536) (C : Cells) : StRep ⟨size, fun _ => none, 0⟩ C (newSt ab size 0) := by
  have no : ∀ {l : Loc} {v : Int}, (newSt ab size 0).at_ l = some v → False := fun {l v} h => by rw [newSt_at] at h; cases h
  refine ⟨rfl, hs, rfl, fun l v h => (no h).elim, fun l l' h _ _ => ?_, ?_, fun l v h => (no h).elim, fun i v h => (no h).elim, fun i v h => (no h).elim⟩
  · rw [newSt_at] at h; cases h
  · show cnt (fun _ => none) size = 0
    exact cnt_none _

set_option maxHeartbeats 1000000 in
set_option maxRecDepth 100000 in
theorem new_store {ab size : Nat} (hs : size ≤ 65536) (h : Has o w0 w (.arena ab ⟨size, fun _ => none, 0⟩)) :
    Calls Tryd.prog 29 #[.pointer (some ⟨ab, 0, none⟩)] w fun e w' => ∃ b, e = .returned (.tuple #[.pointer (some ⟨b, 0, none⟩), .int .i64 0]) ∧ Has o w0 w' (.store b (newSt ab size 0)) := by
  have HX := Lib.hid h
  clear h
  go_enter Tryd.func29, Tryd.ntmps29
  go_wp2_with fail
  go_ret2
  refine ⟨_, rfl, ?_⟩
  have h0 : Has o w0 w (.when (ab = ab) (.arena ab ⟨size, fun _ => none, 0⟩)) := Has.whenIn rfl HX.out
  have h1 := h0.beside (Has.madeBlk #[.pointer (some ⟨ab, 0, none⟩), .slice none 0 0, .slice none 0 0, .slice none 0 0] 94 (stF ab (.slice none 0 0) (.slice none 0 0) (.slice none 0 0)) 4 rfl (fun i hi => match i, hi with | 0, _ => rfl | 1, _ => rfl | 2, _ => rfl | 3, _ => rfl))
  have h2 := h1.swap.beside ((Has.rowsNil _ 96 2 (nodeF ⟨fun _ => (0, 0), fun _ => (0, 0, 0), fun _ => 0⟩)).beside ((Has.rowsNil _ 103 5 (verF ⟨fun _ => (0, 0), fun _ => (0, 0, 0), fun _ => 0⟩ (newSt ab size 0))).beside (Has.rowsNil _ 148 2 (txnF ⟨fun _ => (0, 0), fun _ => (0, 0, 0), fun _ => 0⟩ (newSt ab size 0)))))
  exact Has.stShut (x := ⟨ab, .slice none 0 0, .slice none 0 0, .slice none 0 0, ⟨size, fun _ => none, 0⟩, ⟨fun _ => (0, 0), fun _ => (0, 0, 0), fun _ => 0⟩⟩) (newSt_rep ab size hs _) h2

/-- A store with more words, in cells that were free. -/
theorem StRep.ext {S S' : Ar} {C C' : Cells} {A A' : ASt} {cs : List Nat} {f : Nat → Int} (h : StRep S C A) (ht : Took S cs) (hl : Laid S S' cs f) (nw : Loc → Nat → Prop)
    (hcase : ∀ l v, A'.at_ l = some v → (A.at_ l = some v ∧ C'.of l = C.of l) ∨ ∃ i, ∃ hi : i < cs.length, C'.of l = cs[i] ∧ v = f i ∧ nw l i)
    (hnw : ∀ l l' i, nw l i → nw l' i → l = l') (hsz : A'.size = A.size) (hst : A'.steps = S'.steps) (hu : A'.used = A.used + cs.length)
    (hf : ∀ i, i < cs.length → 0 ≤ f i ∧ f i < 18446744073709551616) (hh : ∀ i v, A'.at_ (.head i) = some v → v ≤ A'.nV) (hx : ∀ i v, A'.at_ (.next i) = some v → v ≤ i) : StRep S' C' A' := by
  have hold : ∀ l v, A.at_ l = some v → C.of l ∉ cs := fun l v hv hm => by
    have := h.has l v hv
    rw [(ht.free _ hm).1] at this
    cases this
  refine ⟨by rw [hl.size, hsz]; exact h.size, by rw [hsz]; exact h.big, hst.symm, fun l v hv => ?_, fun a b ha hb e => ?_, ?_, fun l v hv => ?_, hh, hx⟩
  · rcases hcase l v hv with ⟨h1, h2⟩ | ⟨i, hi, h1, rfl, _⟩
    · rw [h2, hl.rest _ (hold l v h1)]; exact h.has l v h1
    · rw [h1]; exact hl.has i hi
  · obtain ⟨v, hv⟩ := Option.isSome_iff_exists.1 ha
    obtain ⟨u, hu⟩ := Option.isSome_iff_exists.1 hb
    rcases hcase a v hv with ⟨h1, h2⟩ | ⟨i, hi, h1, _, n1⟩
    · rcases hcase b u hu with ⟨h3, h4⟩ | ⟨j, hj, h3, _, n2⟩
      · exact h.inj a b (by rw [h1]; rfl) (by rw [h3]; rfl) (by rw [← h2, ← h4]; exact e)
      · exact absurd (by rw [← h2, e, h3]; exact List.getElem_mem hj) (hold a v h1)
    · rcases hcase b u hu with ⟨h3, h4⟩ | ⟨j, hj, h3, _, n2⟩
      · exact absurd (by rw [← h4, ← e, h1]; exact List.getElem_mem hi) (hold b u h3)
      · have hij : i = j := by
          rw [h1, h3] at e
          rcases Nat.lt_trichotomy i j with hlt | he | hgt
          · exact absurd e (List.pairwise_iff_getElem.1 ht.nodup i j hi hj hlt)
          · exact he
          · exact absurd e.symm (List.pairwise_iff_getElem.1 ht.nodup j i hj hi hgt)
        subst hij
        exact hnw a b i n1 n2
  · rw [hu, ← h.count, ← ht.count, hl.size]
    refine cnt_some _ fun d => ?_
    rw [putAll_get]
    by_cases hd : d ∈ cs
    · obtain ⟨i, hi, e⟩ := List.mem_iff_getElem.1 hd
      rw [if_pos hd, ← e, hl.has i hi]; rfl
    · rw [if_neg hd, hl.rest d hd]
  · rcases hcase l v hv with ⟨h1, _⟩ | ⟨i, hi, _, rfl, _⟩
    · exact h.word l v h1
    · exact hf i hi

/-- One more node. -/
def ASt.addNode (A : ASt) (st : Int) : ASt := { A with steps := st, nN := A.nN + 1, N := fun j => if j = A.nN then (0, 0) else A.N j }
def Cells.addNode (C : Cells) (n c1 c2 : Nat) : Cells := { C with n := fun j => if j = n then (c1, c2) else C.n j }

theorem StRep.addNode {S S' : Ar} {C : Cells} {A : ASt} {c1 c2 : Nat} (h : StRep S C A) (ht : Took S [c1, c2]) (hl : Laid S S' [c1, c2] fun _ => 0) : StRep S' (C.addNode A.nN c1 c2) (A.addNode S'.steps) := by
  have hat : ∀ l v, (A.addNode S'.steps).at_ l = some v → (A.at_ l = some v ∧ (C.addNode A.nN c1 c2).of l = C.of l) ∨ ((l = .head A.nN ∧ v = 0) ∨ (l = .lock A.nN ∧ v = 0)) := by
    intro l v hv
    cases l with
    | head i =>
      simp only [ASt.at_, ASt.addNode] at hv
      by_cases e : i = A.nN
      · subst e; right; left; simp at hv; exact ⟨rfl, hv.symm⟩
      · left
        simp only [ASt.at_, Cells.of, Cells.addNode, if_neg e] at hv ⊢
        by_cases hi : i < A.nN
        · rw [if_pos hi]; rw [if_pos (by omega)] at hv; exact ⟨hv, trivial⟩
        · rw [if_neg (by omega)] at hv; cases hv
    | lock i =>
      simp only [ASt.at_, ASt.addNode] at hv
      by_cases e : i = A.nN
      · subst e; right; right; simp at hv; exact ⟨rfl, hv.symm⟩
      · left
        simp only [ASt.at_, Cells.of, Cells.addNode, if_neg e] at hv ⊢
        by_cases hi : i < A.nN
        · rw [if_pos hi]; rw [if_pos (by omega)] at hv; exact ⟨hv, trivial⟩
        · rw [if_neg (by omega)] at hv; cases hv
    | begin_ i => exact .inl ⟨hv, rfl⟩
    | end_ i => exact .inl ⟨hv, rfl⟩
    | next i => exact .inl ⟨hv, rfl⟩
    | state i => exact .inl ⟨hv, rfl⟩
  refine h.ext ht hl (fun l i => (l = .head A.nN ∧ i = 0) ∨ (l = .lock A.nN ∧ i = 1)) (fun l v hv => ?_) ?_ rfl rfl ?_ (fun i _ => by omega) (fun i v hv => ?_) (fun i v hv => ?_)
  · rcases hat l v hv with h1 | ⟨rfl, rfl⟩ | ⟨rfl, rfl⟩
    · exact .inl h1
    · exact .inr ⟨0, by simp, by simp [Cells.of, Cells.addNode], rfl, .inl ⟨rfl, rfl⟩⟩
    · exact .inr ⟨1, by simp, by simp [Cells.of, Cells.addNode], rfl, .inr ⟨rfl, rfl⟩⟩
  · rintro l l' i (⟨rfl, rfl⟩ | ⟨rfl, rfl⟩) (⟨rfl, h2⟩ | ⟨rfl, h2⟩)
    all_goals first | rfl | omega
  · show 2 * (A.nN + 1) + _ + _ = A.used + 2
    unfold ASt.used; simp only [ASt.addNode]; omega
  · rcases hat _ v hv with ⟨h1, _⟩ | ⟨_, rfl⟩ | ⟨_, rfl⟩
    · exact h.headLe i v h1
    · exact Int.natCast_nonneg _
    · exact Int.natCast_nonneg _
  · rcases hat _ v hv with ⟨h1, _⟩ | ⟨_, rfl⟩ | ⟨_, rfl⟩
    · exact h.nextLe i v h1
    · exact Int.natCast_nonneg _
    · exact Int.natCast_nonneg _

theorem stp_moreNode {w5 : World} {x : StIx} {B : Part} {v' : Value} {c1 c2 : Nat} (st : Int) (ob : Obj) (h : Has o w0 w ((StP b x A).sep B))
    (happ : Appended (w.alloc ob) w5 96 2 x.nv v' (A.nN + 1) (flatN A.nN (nodeF x.C) ++ [.int .i64 (c1 : Nat), .int .i64 (c2 : Nat)])) :
    (∃ o', Has o' w5 w5 B) ∧ w5.cell? ⟨b, 1, none⟩ = some x.nv ∧ w5.frozen? ⟨b, 1, none⟩ = false ∧ Has o w0 (w5.setCell ⟨b, 1, none⟩ v') ((StP b { x with nv := v', C := x.C.addNode A.nN c1 c2 } (A.addNode st)).sep B) := by
  obtain ⟨o1, h1, _, _, b1⟩ := h.left
  obtain ⟨o2, h2, _, _, b2⟩ := h1.right
  obtain ⟨o3, h3, _, _, b3⟩ := h2.left
  have h4 := Has.rowsMore ob h3 happ
  have h5 := b2 _ _ (b3 _ _ h4)
  obtain ⟨o6, h6, _, _, b6⟩ := h5.left
  obtain ⟨o7, h7, _, _, b7⟩ := h6.left
  obtain ⟨c, z, hput⟩ := h7.blkAt (i := 1) (by omega)
  obtain ⟨oo, hoo, _⟩ := (b1 _ _ h5).right
  refine ⟨⟨oo, hoo⟩, c, z, b1 _ _ ?_⟩
  have h8 := b6 _ _ (b7 _ _ (hput v'))
  have e1 : upd (stF x.ab x.nv x.vv x.tv) 1 v' = stF x.ab v' x.vv x.tv := funext fun i => by
    unfold upd stF
    by_cases e : i = 1
    · subst e; rfl
    · simp [e]
  have e2 : (fun d => if d = A.nN then [Value.int .i64 (c1 : Nat), .int .i64 (c2 : Nat)] else nodeF x.C d) = nodeF (x.C.addNode A.nN c1 c2) := funext fun d => by
    unfold nodeF Cells.addNode
    by_cases e : d = A.nN <;> simp [e]
  rw [e1, e2] at h8
  exact h8

theorem info_node : (Tryd.prog.info? 96).map (fun i => (i.zero, i.size, i.bytes)) = some (some (.agg #[.int .i64 0, .int .i64 0]), 2, 16) := by kernel_rfl

theorem cells_two (w : World) (n : Nat) (c1 c2 : Int) (t : TypeId) (hn : n = w.heap.size) : ∀ j u, [Value.int .i64 c1, .int .i64 c2][j]? = some u → (w.alloc (.cells #[.int .i64 c1, .int .i64 c2] t)).cell? ((⟨n, 0, none⟩ : Addr).add j) = some u := by
  subst hn
  intro j u hu
  have h : j < 2 := by have := (List.getElem?_eq_some_iff.1 hu).1; simpa using this
  have hb := Blk.made w #[.int .i64 c1, .int .i64 c2] t (fun i => [Value.int .i64 c1, .int .i64 c2].getD i default) 2 rfl (fun i hi => match i, hi with | 0, _ => rfl | 1, _ => rfl)
  rw [addr0, hb.cell h, List.getD_eq_getElem?_getD, hu]
  rfl

theorem wordsMade (vs : Array Value) (f : Nat → Int) (m : Nat) (hm : vs.size = m) (hf : ∀ i, i < m → vs[i]? = some (.int .u64 (f i))) : Has [] w (w.alloc (.cells vs 56)) (.words w.heap.size m f) :=
  Has.madeBlk vs _ _ m hm hf

set_option maxHeartbeats 4000000 in
set_option maxRecDepth 100000 in
theorem node_make (h : Has o w0 w (.store b A)) (hT : TabAt w0) (ho : 0 ∉ o) (hfree : A.used + 2 ≤ A.size) :
    Calls Tryd.prog 30 #[.pointer (some ⟨b, 0, none⟩)] w fun e w' => e = .returned (.tuple #[.int .i64 ((A.nN : Int) + 1), .int .i64 0]) ∧ ∃ st, Has o w0 w' (.store b (A.addNode st)) := by
  obtain ⟨x, hr, h⟩ := h.stOpen
  have h2 := h.beside (wordsMade (w := w) #[.int .u64 0, .int .u64 0] (fun _ => 0) 2 rfl (fun i hi => match i, hi with | 0, _ => rfl | 1, _ => rfl))
  have HTK := Lib.hid (take_ok h2 hT ho (by omega) (by rw [hr.count, hr.size]; exact hfree))
  have HR := Lib.hid hr
  have h16 : A.nN ≤ 65536 := by have := hr.big; have : 2 * A.nN ≤ A.used := by unfold ASt.used; omega
                                omega
  obtain ⟨i0, hi0, hz0, hz1, hz2⟩ := info_parts info_node
  clear h h2 hr hT ho hfree
  go_enter Tryd.func30, Tryd.ntmps30
  go_wp2_with fail
  refine HTK.out.mono ?_
  rintro e w2 ⟨uv, cs, S', rfl, hcl, htk, hld, hX⟩
  obtain ⟨c1, c2, rfl⟩ : ∃ c1 c2, cs = [c1, c2] := by
    match cs, hcl with
    | [c1, c2], _ => exact ⟨c1, c2, rfl⟩
  have hX2 : Has o w0 w2 ((StP b { x with S := S' } A).sep (.nums uv [c1, c2])) := hX.weaken (Part.Imp.sep (Part.Imp.refl _) (Part.Imp.snd _ _))
  have HRN := Lib.hid (HR.out.addNode htk hld)
  obtain ⟨o3, h3, _⟩ := hX2.right
  obtain ⟨np, nc, rfl, _, _, hc⟩ := nums_open h3
  obtain ⟨g, rfl, hc2⟩ := hc (by simp)
  have y1 : w2.cell? ⟨g, 0, none⟩ = some (.int .i64 (c1 : Nat)) := hc2 0 (by simp)
  have y2 : w2.cell? ⟨g, 1, none⟩ = some (.int .i64 (c2 : Nat)) := hc2 1 (by simp)
  simp only [List.length_cons, List.length_nil] at *
  obtain ⟨o4, h4, _⟩ := hX2.left
  obtain ⟨y0, y3, _, _⟩ := StP.fields h4
  obtain ⟨o5, h5⟩ := StP.nodes h4
  have HROW := Lib.hid h5.rowsOwn
  have HX := Lib.hid hX2
  clear hX hX2 h3 h4 h5 hc hc2 hcl htk hld HTK
  go_wp2_with fail
  have HROW2 := Lib.hid (show w2.drew.ownsRow 0 96 2 x.nv A.nN (flatN A.nN (nodeF x.C)) from HROW.out)
  have HXD := Lib.hid (HX.out.quiet ((Kept.refl [] w2).drew))
  have y3a : (w2.alloc (.cells #[.int .i64 (c1 : Nat), .int .i64 (c2 : Nat)] 96)).cell? ⟨b, 1, none⟩ = some x.nv := ((Kept.refl [] w2).alloc _).cell y3 (by simp)
  go_region_law
    (refine step_append_new rfl (.tmp 21) (.tmp 29) 90 rfl 96 i0 (.agg #[.int .i64 0, .int .i64 0]) 2 16 Tryd.underlying90 hi0 hz0 hz1 hz2 rfl (by decide) x.nv A.nN (flatN A.nN (nodeF x.C)) rfl (HROW2.out.alloc _) ⟨_, 0, none⟩ 1 1 [.int .i64 (c1 : Nat), .int .i64 (c2 : Nat)] rfl rfl (cells_two _ _ _ _ _ (by simp)) (by simp [Value.oneCell']) (by simp only [maxLen]; omega) (by omega) ?_
     intro v' w5 happ
     obtain ⟨⟨o7, h7⟩, z3, zf, hP⟩ := stp_moreNode S'.steps _ HXD.out happ
     obtain ⟨_, _, he7, _, _, hc7⟩ := nums_open h7
     obtain ⟨g7, hg7, hc7⟩ := hc7 (by simp)
     obtain rfl : g = g7 := by simp only [Value.slice.injEq] at he7; rw [← he7.1] at hg7; simpa using hg7
     have z1 : w5.cell? ⟨g, 0, none⟩ = some (.int .i64 (c1 : Nat)) := hc7 0 (by simp)
     have z2 : w5.cell? ⟨g, 1, none⟩ = some (.int .i64 (c2 : Nat)) := hc7 1 (by simp)
     obtain ⟨gv, vcap, rfl⟩ : ∃ gv vcap, v' = .slice (some ⟨gv, 0, none⟩) (A.nN + 1) vcap := by
       rcases rowN_open happ.row with ⟨_, h0⟩ | ⟨gv, vc, e, _⟩
       · omega
       · exact ⟨gv, vc, e⟩
     obtain ⟨_, h9, _⟩ := hP.right
     obtain ⟨_, _, he9, _, _, hc9⟩ := nums_open h9
     obtain ⟨g9, hg9, hc9⟩ := hc9 (by simp)
     obtain rfl : g = g9 := by simp only [Value.slice.injEq] at he9; rw [← he9.1] at hg9; simpa using hg9
     have u1 : (w5.setCell ⟨b, 1, none⟩ (.slice (some ⟨gv, 0, none⟩) (A.nN + 1) vcap)).cell? ⟨g, 0, none⟩ = some (.int .i64 (c1 : Nat)) := hc9 0 (by simp)
     have u2 : (w5.setCell ⟨b, 1, none⟩ (.slice (some ⟨gv, 0, none⟩) (A.nN + 1) vcap)).cell? ⟨g, 1, none⟩ = some (.int .i64 (c2 : Nat)) := hc9 1 (by simp)
     have HP := Lib.hid hP
     clear happ h7 he7 hc7 hP h9 he9 hc9)
  all_goals (
    go_wp2_with fail
    go_ret2
    exact ⟨rfl, S'.steps, Has.stShut (x := { x with nv := .slice (some ⟨gv, 0, none⟩) (A.nN + 1) vcap, S := S', C := x.C.addNode A.nN c1 c2 }) HRN.out HP.out.fst⟩)
end Go.Proofs.YtbodobdllchmgaaDoor
namespace Go.Proofs.YtbodobdllchmgaaDoor
open Go Go.RowKit
set_option linter.unusedVariables false

variable {o : List Nat} {w0 w : World} {b : Nat} {x : StIx} {A : ASt}

/-- Where a version lies, if it is there. -/
def verAt (A : ASt) (g : Nat) (n : Int) : Option Addr := if 1 ≤ n ∧ A.ver (n - 1).toNat = true then some ⟨g, (n - 1).toNat * 5, none⟩ else none

theorem verAt_some {A : ASt} {g i : Nat} (h : A.ver i = true) : verAt A g ((i : Int) + 1) = some ⟨g, i * 5, none⟩ := by
  unfold verAt
  have e : ((i : Int) + 1 - 1).toNat = i := by omega
  rw [e, if_pos ⟨by omega, h⟩]

theorem version_any (h : Has o w0 w (StP b x A)) (n : Int) {g cap : Nat} (hvv : 0 < A.nV → x.vv = .slice (some ⟨g, 0, none⟩) A.nV cap) :
    Calls Tryd.prog 53 #[.pointer (some ⟨b, 0, none⟩), .int .i64 n] w fun e w' => e = .returned (.pointer (verAt A g n)) ∧ w' = w := by
  by_cases hc : 1 ≤ n ∧ A.ver (n - 1).toNat = true
  · obtain ⟨i, rfl⟩ : ∃ i : Nat, n = (i : Int) + 1 := ⟨(n - 1).toNat, by omega⟩
    have e : ((i : Int) + 1 - 1).toNat = i := by omega
    rw [e] at hc
    rw [verAt_some hc.2]
    exact version_at h i hc.2 (hvv (by have := ver_lt hc.2; omega))
  · unfold verAt
    rw [if_neg hc]
    refine version_no h n fun i hi => ?_
    subst hi
    have e : ((i : Int) + 1 - 1).toNat = i := by omega
    rw [e] at hc
    cases hv : A.ver i
    · rfl
    · exact absurd ⟨by omega, hv⟩ hc

/-- A chain's numbers, from one on. -/
def chainF (A : ASt) : Nat → Int → List Nat
  | 0, _ => []
  | f + 1, n => if 1 ≤ n ∧ A.ver (n - 1).toNat = true then n.toNat :: chainF A f (A.V (n - 1).toNat).next else []

theorem chainF_stop {A : ASt} {f : Nat} {n : Int} (h : ¬ (1 ≤ n ∧ A.ver (n - 1).toNat = true)) : chainF A f n = [] := by
  cases f with
  | zero => rfl
  | succ f => unfold chainF; rw [if_neg h]

theorem chainF_go {A : ASt} {f i : Nat} (h : A.ver i = true) : chainF A (f + 1) ((i : Int) + 1) = (i + 1) :: chainF A f (A.V i).next := by
  have e : ((i : Int) + 1 - 1).toNat = i := by omega
  have e2 : ((i : Int) + 1).toNat = i + 1 := by omega
  rw [show chainF A (f + 1) ((i : Int) + 1) = if 1 ≤ (i : Int) + 1 ∧ A.ver ((i : Int) + 1 - 1).toNat = true then ((i : Int) + 1).toNat :: chainF A f (A.V ((i : Int) + 1 - 1).toNat).next else [] from rfl, e, e2, if_pos ⟨by omega, h⟩]

/-- The same store, so many steps on. -/
def ASt.at (A : ASt) (st : Int) : ASt := { A with steps := st }

theorem nums_more1 {w5 : World} {v v' : Value} {cs : List Nat} {B : Part} {c : Nat} (ob : Obj) (h : Has o w0 w (B.sep (.nums v cs))) (happ : Appended (w.alloc ob) w5 3 1 v v' (cs.length + 1) ((cs.map fun c : Nat => Value.int .i64 (c : Int)) ++ [.int .i64 c])) :
    Has o w0 w5 (B.sep (.nums v' (cs ++ [c]))) := by
  obtain ⟨o1, h1, _, _, b1⟩ := h.right
  have h3 := Has.rowAppend ob h1 happ
  refine b1 _ _ ?_
  unfold Part.nums
  rw [List.length_append, List.map_append]
  exact h3

theorem stp_load2 {B : Part} (h : Has o w0 w ((StP b x A).sep B)) (hr : StRep x.S x.C A) (l : Loc) (v : Int) (hl : A.at_ l = some v) :
    Calls Tryd.prog 51 #[.pointer (some ⟨x.ab, 0, none⟩), .int .i64 (x.C.of l)] w fun e w' => e = .returned (.tuple #[.int .u64 v, .int .i64 0]) ∧ Has o w0 w' ((StP b { x with S := x.S.step } A.step).sep B) := by
  obtain ⟨o1, h1, _, _, b1⟩ := h.left
  refine (stp_load h1 hr l v hl).mono ?_
  rintro e w' ⟨rfl, h'⟩
  exact ⟨rfl, b1 _ _ h'⟩

set_option maxHeartbeats 4000000 in
set_option maxRecDepth 100000 in
theorem chain_walk (h : Has o w0 w (StP b x A)) (hr : StRep x.S x.C A) (n : Int) (hn : n ≤ A.nV) (hV : A.nV ≤ 1000000000) :
    Calls Tryd.prog 63 #[.pointer (some ⟨b, 0, none⟩), .int .i64 n] w fun e w' => ∃ lv S st, e = .returned lv ∧ StRep S x.C (A.at st) ∧ Has o w0 w' ((StP b { x with S := S } (A.at st)).sep (.nums lv (chainF A n.toNat n))) := by
  obtain ⟨g, cap, hvv⟩ : ∃ g cap, 0 < A.nV → x.vv = .slice (some ⟨g, 0, none⟩) A.nV cap := by
    by_cases h0 : 0 < A.nV
    · obtain ⟨g, cap, e⟩ := StP.verSlice h h0
      exact ⟨g, cap, fun _ => e⟩
    · exact ⟨0, 0, fun h => absurd h h0⟩
  have HV0 := Lib.hid (version_any h n hvv)
  have HX := Lib.hid (h.beside (Has.nilNums _))
  have HR := Lib.hid hr
  have HVV := Lib.hid hvv
  obtain ⟨i0, hi0, hz0, hz1, hz2⟩ := info_parts info_num
  clear h hr hvv
  go_enter Tryd.func63, Tryd.ntmps63
  go_wp2_with fail
  refine HV0.out.mono ?_
  rintro e w' ⟨rfl, rfl⟩
  go_wp2_with fail
  go_loopg [1, 5, 6] (n.toNat + 1) (fun k nv lv pv wr => ∃ (m : Int) (f : Nat) (cs : List Nat) (S : Ar) (st : Int), nv = .int .i64 m ∧ m ≤ f ∧ f ≤ n.toNat ∧ k = f + 1 ∧ pv = .pointer (verAt A g m) ∧ chainF A n.toNat n = cs ++ chainF A f m ∧ cs.length + f ≤ n.toNat ∧ StRep S x.C (A.at st) ∧ Has o w0 wr ((StP b { x with S := S } (A.at st)).sep (.nums lv cs)))
  case atStart => exact ⟨n, n.toNat, [], x.S, A.steps, rfl, by omega, Nat.le_refl _, rfl, rfl, rfl, by simp, HR.out, HX.out⟩
  case round =>
    clear HX HV0
    obtain ⟨m, f, cs, S, st, rfl, hmf, hfn, hk, rfl, hcs, hlen, hr, hX⟩ := hrel
    have HKK := Lib.hid hk
    have HCS := Lib.hid hcs
    by_cases hc : 1 ≤ m ∧ A.ver (m - 1).toNat = true
    · obtain ⟨i, rfl⟩ : ∃ i : Nat, m = (i : Int) + 1 := ⟨(m - 1).toNat, by omega⟩
      have ei : ((i : Int) + 1 - 1).toNat = i := by omega
      rw [ei] at hc
      obtain ⟨f', rfl⟩ : ∃ f', f = f' + 1 := ⟨f - 1, by omega⟩
      have hlt := ver_lt hc.2
      have hl : (A.at st).at_ (.next i) = some (A.V i).next := by show (if A.ver i = true then some (A.V i).next else none) = _; rw [if_pos hc.2]
      have hnx := hr.nextLe i _ hl
      have hwd := hr.word _ _ hl
      rw [verAt_some hc.2]
      rw [chainF_go hc.2] at hcs
      have HCS := Lib.hid hcs
      obtain ⟨o3, h3, _⟩ := hX.right
      obtain ⟨np, nc, hnv, hnl, hrow, _⟩ := nums_open h3
      have HROW := Lib.hid hrow
      have HX := Lib.hid hX
      have HR2 := Lib.hid hr
      have HL := Lib.hid hl
      have hvg := HVV.out (by omega)
      have HVG := Lib.hid hvg
      have hl9 : cs.length ≤ 1000000000 := by omega
      have e9 : IntKind.i64.wrap (A.V i).next = (A.V i).next := by unfold IntKind.wrap; simp [IntKind.bits, IntKind.signed]; omega
      have hVT := hc.2
      clear hk hcs hX h3 hnv hrow hr hl hvg hnl hc
      go_wp2_with (at_builtin; refine wpList_append_new rfl (.tmp 17) (.tmp 19) 22 rfl 3 i0 (.int .i64 0) 1 8 Tryd.underlying22 hi0 hz0 hz1 hz2 rfl (by decide) _ _ _ rfl (HROW.out.alloc _) ⟨_, 0, none⟩ 1 1 [.int .i64 ((i : Int) + 1)] rfl rfl (cell_one _ _ _ _ (by simp)) (by simp [Value.oneCell']) (by simp only [maxLen]; omega) (by omega) ?_)
      intro v' w5 happ
      have HX5 := Lib.hid (nums_more1 (c := i + 1) _ HX.out happ)
      obtain ⟨o4, h4, _⟩ := HX5.out.left
      obtain ⟨c0, _, _, _⟩ := StP.fields h4
      obtain ⟨_, _, _, c1⟩ := StP.verCells h4 hlt HVG.out
      have HLD := Lib.hid (fun (w' : World) (hw : Has o w0 w' ((StP b { x with S := S } (A.at st)).sep (.nums v' (cs ++ [i + 1])))) => stp_load2 hw HR2.out (.next i) (A.V i).next HL.out)
      clear happ HROW HX h4
      go_wp2_with fail
      go_region_held3 (fun w' => w'.cell? ⟨b, 0, none⟩ = some (.pointer (some ⟨x.ab, 0, none⟩)) ∧ w'.cell? ⟨g, i * 5 + 3, none⟩ = some (.int .i64 ((x.C.v i).2.2)))
        (first | exact ⟨c0, c1⟩ | exact ⟨d0, d1⟩)
        (first | (go_at_call 51
                  refine (HLD.out _ (HX5.out.quiet ((Kept.refl _ _).drew))).mono ?_
                  rintro e w4 ⟨rfl, hX4⟩
                  obtain ⟨o4, h4, _⟩ := hX4.left
                  obtain ⟨d0, _, _, _⟩ := StP.fields h4
                  obtain ⟨_, _, _, d1⟩ := StP.verCells h4 hlt HVG.out
                  have HX4 := Lib.hid hX4
                  clear hX4 h4))
      obtain ⟨o6, h6, _⟩ := HX4.out.left
      have HV2 := Lib.hid (version_any h6 (A.V i).next (g := g) (cap := cap) HVV.out)
      clear h6
      go_wp2_with fail
      refine HV2.out.mono ?_
      rintro e w7 ⟨rfl, rfl⟩
      go_wp2_with fail
      go_roundg (f' + 1)
      case measure => rw [HKK.out]; omega
      case rel =>
        refine ⟨(A.V i).next, f', cs ++ [i + 1], S.step, _, rfl, by omega, by omega, rfl, rfl, ?_, ?_, HR2.out.step, HX4.out⟩
        · rw [HCS.out]; simp
        · rw [List.length_append]; simp; omega
    · have hve : verAt A g m = none := by unfold verAt; rw [if_neg hc]
      rw [hve]
      rw [chainF_stop hc, List.append_nil] at hcs
      have HCS := Lib.hid hcs
      have HX := Lib.hid hX
      have HR2 := Lib.hid hr
      clear hk hcs hX hr hc hve
      go_wp2_with fail
      go_ret
      exact ⟨_, S, st, rfl, HR2.out, by rw [HCS.out]; exact HX.out⟩
end Go.Proofs.YtbodobdllchmgaaDoor
namespace Go.Proofs.YtbodobdllchmgaaDoor
open Go Go.RowKit
set_option linter.unusedVariables false

variable {o : List Nat} {w0 w : World}

def rnF (A : ASt) (i : Nat) : List Value := [.int .i64 (A.N i).1, .int .u64 (A.N i).2]
def rvF (A : ASt) (i : Nat) : List Value := [.string (A.V i).val, .int .u64 (A.V i).begin_, .int .u64 (A.V i).end_, .int .i64 (A.V i).next, .bool (A.V i).gone]
def rtF (A : ASt) (i : Nat) : List Value := [.int .u64 (A.T i).1, .bool (A.T i).2]
theorem rnF_len (A : ASt) (i : Nat) : (rnF A i).length = 2 := rfl
theorem rvF_len (A : ASt) (i : Nat) : (rvF A i).length = 5 := rfl
theorem rtF_len (A : ASt) (i : Nat) : (rtF A i).length = 2 := rfl

/-- Its block: the three rows, how many cells are free, how many steps there were. -/
def rfF (nv vv tv : Value) (fr rs : Int) (i : Nat) : Value := if i = 0 then nv else if i = 1 then vv else if i = 2 then tv else if i = 3 then .int .i64 fr else .int .i64 rs

structure RfIx where
  nv : Value
  vv : Value
  tv : Value

noncomputable def RfRows (x : RfIx) (A : ASt) : Part :=
  (Part.rows 77 2 x.nv A.nN (rnF A)).sep ((Part.rows 82 5 x.vv A.nV (rvF A)).sep (.rows 146 2 x.tv A.nT (rtF A)))
noncomputable def RfP (b : Nat) (x : RfIx) (A : ASt) (fr rs : Int) : Part := (Part.blk b 5 73 (rfF x.nv x.vv x.tv fr rs)).sep (RfRows x A)

/-- The free cells. -/
def ASt.free (A : ASt) : Int := (A.size : Int) - (A.used : Int)

/-- The reference's store in memory. -/
noncomputable def Part.rstore (b : Nat) (A : ASt) (rs : Int) : Part := .ex fun x : RfIx => RfP b x A A.free rs

theorem Has.rfOpen {b : Nat} {A : ASt} {rs : Int} (h : Has o w0 w (.rstore b A rs)) : ∃ x : RfIx, Has o w0 w (RfP b x A A.free rs) := h.exOut
theorem Has.rfShut {b : Nat} {A : ASt} {rs : Int} {x : RfIx} (h : Has o w0 w (RfP b x A A.free rs)) : Has o w0 w (.rstore b A rs) := Has.exIn x h

variable {b : Nat} {x : RfIx} {A : ASt} {fr rs : Int}

theorem RfP.fields (h : Has o w0 w (RfP b x A fr rs)) : w.cell? ⟨b, 0, none⟩ = some x.nv ∧ w.cell? ⟨b, 1, none⟩ = some x.vv ∧ w.cell? ⟨b, 2, none⟩ = some x.tv ∧ w.cell? ⟨b, 3, none⟩ = some (.int .i64 fr) ∧ w.cell? ⟨b, 4, none⟩ = some (.int .i64 rs) ∧ ∀ i, i < 5 → w.frozen? ⟨b, i, none⟩ = false := by
  obtain ⟨o1, h1, _⟩ := h.left
  exact ⟨(h1.blkAt (i := 0) (by omega)).1, (h1.blkAt (i := 1) (by omega)).1, (h1.blkAt (i := 2) (by omega)).1, (h1.blkAt (i := 3) (by omega)).1, (h1.blkAt (i := 4) (by omega)).1, fun i hi => (h1.blkAt hi).2.1⟩

/-- Other numbers of free cells and of steps. -/
theorem RfP.putFree (h : Has o w0 w (RfP b x A fr rs)) (u : Int) : Has o w0 (w.setCell ⟨b, 3, none⟩ (.int .i64 u)) (RfP b x A u rs) := by
  obtain ⟨o1, h1, _, _, b1⟩ := h.left
  have h2 := (h1.blkAt (i := 3) (by omega)).2.2 (.int .i64 u)
  have e : upd (rfF x.nv x.vv x.tv fr rs) 3 (.int .i64 u) = rfF x.nv x.vv x.tv u rs := funext fun i => by
    unfold upd rfF
    by_cases e : i = 3
    · subst e; rfl
    · simp [e]
  rw [e] at h2
  exact b1 _ _ h2
theorem RfP.putSteps (h : Has o w0 w (RfP b x A fr rs)) (u : Int) : Has o w0 (w.setCell ⟨b, 4, none⟩ (.int .i64 u)) (RfP b x A fr u) := by
  obtain ⟨o1, h1, _, _, b1⟩ := h.left
  have h2 := (h1.blkAt (i := 4) (by omega)).2.2 (.int .i64 u)
  have e : ∀ i, i < 5 → upd (rfF x.nv x.vv x.tv fr rs) 4 (.int .i64 u) i = rfF x.nv x.vv x.tv fr u i := fun i hi => by
    unfold upd rfF
    rcases (by omega : i = 0 ∨ i = 1 ∨ i = 2 ∨ i = 3 ∨ i = 4) with rfl | rfl | rfl | rfl | rfl <;> simp
  refine b1 _ _ (h2.mono ?_)
  rintro fp ⟨hb, rfl⟩
  exact ⟨hb.congr e, rfl⟩

theorem RfP.nodes (h : Has o w0 w (RfP b x A fr rs)) : ∃ o', Has o' w w (.rows 77 2 x.nv A.nN (rnF A)) ∧ ∀ w' A' nv, Has o' w w' (.rows 77 2 nv A'.nN (rnF A')) → A'.nV = A.nV → A'.nT = A.nT → rvF A' = rvF A → rtF A' = rtF A → nv = x.nv → Has o w0 w' (RfP b x A' fr rs) := by
  obtain ⟨o1, h1, _, _, b1⟩ := h.right
  obtain ⟨o2, h2, _, _, b2⟩ := h1.left
  refine ⟨o2, h2, fun w' A' nv h' e1 e2 e3 e4 e5 => ?_⟩
  subst e5
  have := b1 _ _ (b2 _ _ h')
  unfold RfP RfRows
  rw [e1, e2, e3, e4]
  exact this
theorem RfP.vers (h : Has o w0 w (RfP b x A fr rs)) : ∃ o', Has o' w w (.rows 82 5 x.vv A.nV (rvF A)) ∧ ∀ w' A', Has o' w w' (.rows 82 5 x.vv A'.nV (rvF A')) → A'.nN = A.nN → A'.nT = A.nT → rnF A' = rnF A → rtF A' = rtF A → Has o w0 w' (RfP b x A' fr rs) := by
  obtain ⟨o1, h1, _, _, b1⟩ := h.right
  obtain ⟨o2, h2, _, _, b2⟩ := h1.right
  obtain ⟨o3, h3, _, _, b3⟩ := h2.left
  refine ⟨o3, h3, fun w' A' h' e1 e2 e3 e4 => ?_⟩
  have := b1 _ _ (b2 _ _ (b3 _ _ h'))
  unfold RfP RfRows
  rw [e1, e2, e3, e4]
  exact this
theorem RfP.txns (h : Has o w0 w (RfP b x A fr rs)) : ∃ o', Has o' w w (.rows 146 2 x.tv A.nT (rtF A)) ∧ ∀ w' A', Has o' w w' (.rows 146 2 x.tv A'.nT (rtF A')) → A'.nN = A.nN → A'.nV = A.nV → rnF A' = rnF A → rvF A' = rvF A → Has o w0 w' (RfP b x A' fr rs) := by
  obtain ⟨o1, h1, _, _, b1⟩ := h.right
  obtain ⟨o2, h2, _, _, b2⟩ := h1.right
  obtain ⟨o3, h3, _, _, b3⟩ := h2.right
  refine ⟨o3, h3, fun w' A' h' e1 e2 e3 e4 => ?_⟩
  have := b1 _ _ (b2 _ _ (b3 _ _ h'))
  unfold RfP RfRows
  rw [e1, e2, e3, e4]
  exact this

theorem RfP.small (h : Has o w0 w (RfP b x A fr rs)) : A.nN ≤ maxLen ∧ A.nV ≤ maxLen ∧ A.nT ≤ maxLen := by
  obtain ⟨_, h1, _⟩ := RfP.nodes h
  obtain ⟨_, h2, _⟩ := RfP.vers h
  obtain ⟨_, h3, _⟩ := RfP.txns h
  exact ⟨h1.rowsSmall, h2.rowsSmall, h3.rowsSmall⟩
theorem RfP.slices (h : Has o w0 w (RfP b x A fr rs)) : (∃ p c, x.nv = .slice p A.nN c) ∧ (∃ p c, x.vv = .slice p A.nV c) ∧ ∃ p c, x.tv = .slice p A.nT c := by
  obtain ⟨_, h1, _⟩ := RfP.nodes h
  obtain ⟨_, h2, _⟩ := RfP.vers h
  obtain ⟨_, h3, _⟩ := RfP.txns h
  exact ⟨h1.rowsSlice, h2.rowsSlice, h3.rowsSlice⟩

/-- A version's cells, and what a store of a number leaves. -/
theorem RfP.ver (h : Has o w0 w (RfP b x A fr rs)) {i : Nat} (hi : i < A.nV) : ∃ g cap, x.vv = .slice (some ⟨g, 0, none⟩) A.nV cap ∧ g ≠ b ∧ w.cell? ⟨g, i * 5, none⟩ = some (.string (A.V i).val) ∧ w.cell? ⟨g, i * 5 + 1, none⟩ = some (.int .u64 (A.V i).begin_) ∧ w.cell? ⟨g, i * 5 + 2, none⟩ = some (.int .u64 (A.V i).end_) ∧ w.cell? ⟨g, i * 5 + 3, none⟩ = some (.int .i64 (A.V i).next) ∧ w.cell? ⟨g, i * 5 + 4, none⟩ = some (.bool (A.V i).gone) ∧
    (∀ j, w.frozen? ⟨g, j, none⟩ = false) ∧ (∀ v, Has o w0 (w.setCell ⟨g, i * 5 + 1, none⟩ (.int .u64 v)) (RfP b x (A.set (.begin_ i) v) fr rs)) ∧ (∀ v, Has o w0 (w.setCell ⟨g, i * 5 + 2, none⟩ (.int .u64 v)) (RfP b x (A.set (.end_ i) v) fr rs)) ∧ (∀ v, Has o w0 (w.setCell ⟨g, i * 5 + 3, none⟩ (.int .i64 v)) (RfP b x (A.set (.next i) v) fr rs)) := by
  obtain ⟨o1, h1, b1⟩ := RfP.vers h
  obtain ⟨g, cap, e, hc, hf, hput⟩ := h1.rowsAt (rvF_len _) hi
  have hgb : g ≠ b := by
    obtain ⟨fp, ⟨f, f2, ⟨hb, rfl⟩, ⟨f3, f4, ⟨hn, rfl⟩, ⟨f5, f6, ⟨hv, rfl⟩, ht, d3, rfl⟩, d2, rfl⟩, d1, rfl⟩, hn2, k⟩ := h
    intro eg
    refine d1 b (by simp) ?_
    rw [e]
    simp [rowsOf, Value.ownBlock, eg]
  refine ⟨g, cap, e, hgb, hc 0 _ rfl, hc 1 _ rfl, hc 2 _ rfl, hc 3 _ rfl, hc 4 _ rfl, hf, fun v => ?_, fun v => ?_, fun v => ?_⟩
  · have h2 := hput 1 (.int .u64 v) (by omega)
    have e2 : (fun d => if d = i then (rvF A i).set 1 (.int .u64 v) else rvF A d) = rvF (A.set (.begin_ i) v) := funext fun d => by
      unfold rvF ASt.set
      by_cases ed : d = i
      · subst ed; simp
      · simp [ed]
    rw [e2] at h2
    exact b1 _ _ h2 rfl rfl rfl rfl
  · have h2 := hput 2 (.int .u64 v) (by omega)
    have e2 : (fun d => if d = i then (rvF A i).set 2 (.int .u64 v) else rvF A d) = rvF (A.set (.end_ i) v) := funext fun d => by
      unfold rvF ASt.set
      by_cases ed : d = i
      · subst ed; simp
      · simp [ed]
    rw [e2] at h2
    exact b1 _ _ h2 rfl rfl rfl rfl
  · have h2 := hput 3 (.int .i64 v) (by omega)
    have e2 : (fun d => if d = i then (rvF A i).set 3 (.int .i64 v) else rvF A d) = rvF (A.set (.next i) v) := funext fun d => by
      unfold rvF ASt.set
      by_cases ed : d = i
      · subst ed; simp
      · simp [ed]
    rw [e2] at h2
    exact b1 _ _ h2 rfl rfl rfl rfl

/-- A node's. -/
theorem RfP.node (h : Has o w0 w (RfP b x A fr rs)) {i : Nat} (hi : i < A.nN) : ∃ g cap, x.nv = .slice (some ⟨g, 0, none⟩) A.nN cap ∧ g ≠ b ∧ w.cell? ⟨g, i * 2, none⟩ = some (.int .i64 (A.N i).1) ∧ w.cell? ⟨g, i * 2 + 1, none⟩ = some (.int .u64 (A.N i).2) ∧
    (∀ j, w.frozen? ⟨g, j, none⟩ = false) ∧ (∀ v, Has o w0 (w.setCell ⟨g, i * 2, none⟩ (.int .i64 v)) (RfP b x (A.set (.head i) v) fr rs)) ∧ (∀ v, Has o w0 (w.setCell ⟨g, i * 2 + 1, none⟩ (.int .u64 v)) (RfP b x (A.set (.lock i) v) fr rs)) := by
  obtain ⟨o1, h1, b1⟩ := RfP.nodes h
  obtain ⟨g, cap, e, hc, hf, hput⟩ := h1.rowsAt (rnF_len _) hi
  have hgb : g ≠ b := by
    obtain ⟨fp, ⟨f, f2, ⟨hb, rfl⟩, ⟨f3, f4, ⟨hn, rfl⟩, ht, d2, rfl⟩, d1, rfl⟩, hn2, k⟩ := h
    intro eg
    refine d1 b (by simp) ?_
    rw [e]
    simp [rowsOf, Value.ownBlock, eg]
  refine ⟨g, cap, e, hgb, hc 0 _ rfl, hc 1 _ rfl, hf, fun v => ?_, fun v => ?_⟩
  · have h2 := hput 0 (.int .i64 v) (by omega)
    have e2 : (fun d => if d = i then (rnF A i).set 0 (.int .i64 v) else rnF A d) = rnF (A.set (.head i) v) := funext fun d => by
      unfold rnF ASt.set
      by_cases ed : d = i
      · subst ed; simp
      · simp [ed]
    rw [e2] at h2
    exact b1 _ _ _ h2 rfl rfl rfl rfl rfl
  · have h2 := hput 1 (.int .u64 v) (by omega)
    have e2 : (fun d => if d = i then (rnF A i).set 1 (.int .u64 v) else rnF A d) = rnF (A.set (.lock i) v) := funext fun d => by
      unfold rnF ASt.set
      by_cases ed : d = i
      · subst ed; simp
      · simp [ed]
    rw [e2] at h2
    exact b1 _ _ _ h2 rfl rfl rfl rfl rfl

/-- A transaction's. -/
theorem RfP.txn (h : Has o w0 w (RfP b x A fr rs)) {i : Nat} (hi : i < A.nT) : ∃ g cap, x.tv = .slice (some ⟨g, 0, none⟩) A.nT cap ∧ g ≠ b ∧ w.cell? ⟨g, i * 2, none⟩ = some (.int .u64 (A.T i).1) ∧ w.cell? ⟨g, i * 2 + 1, none⟩ = some (.bool (A.T i).2) ∧
    (∀ j, w.frozen? ⟨g, j, none⟩ = false) ∧ (∀ v, Has o w0 (w.setCell ⟨g, i * 2, none⟩ (.int .u64 v)) (RfP b x (A.set (.state i) v) fr rs)) := by
  obtain ⟨o1, h1, b1⟩ := RfP.txns h
  obtain ⟨g, cap, e, hc, hf, hput⟩ := h1.rowsAt (rtF_len _) hi
  have hgb : g ≠ b := by
    obtain ⟨fp, ⟨f, f2, ⟨hb, rfl⟩, ⟨f3, f4, ⟨hn, rfl⟩, ⟨f5, f6, hv, ⟨ht, rfl⟩, d3, rfl⟩, d2, rfl⟩, d1, rfl⟩, hn2, k⟩ := h
    intro eg
    refine d1 b (by simp) ?_
    rw [e]
    simp [rowsOf, Value.ownBlock, eg]
  refine ⟨g, cap, e, hgb, hc 0 _ rfl, hc 1 _ rfl, hf, fun v => ?_⟩
  · have h2 := hput 0 (.int .u64 v) (by omega)
    have e2 : (fun d => if d = i then (rtF A i).set 0 (.int .u64 v) else rtF A d) = rtF (A.set (.state i) v) := funext fun d => by
      unfold rtF ASt.set
      by_cases ed : d = i
      · subst ed; simp
      · simp [ed]
    rw [e2] at h2
    exact b1 _ _ h2 rfl rfl rfl rfl

/-- Is there such a node, version, transaction? -/
def ASt.isN (A : ASt) (n : Int) : Bool := decide (1 ≤ n) && decide (n ≤ A.nN)
def ASt.isV (A : ASt) (n : Int) : Bool := decide (1 ≤ n) && A.ver (n - 1).toNat
def ASt.isT (A : ASt) (n : Int) : Bool := decide (1 ≤ n) && A.txn (n - 1).toNat

theorem isN_at {A : ASt} {n : Int} (h : A.isN n = true) : ∃ i : Nat, n = (i : Int) + 1 ∧ i < A.nN := by
  unfold ASt.isN at h; simp at h; exact ⟨(n - 1).toNat, by omega, by omega⟩
theorem isV_at {A : ASt} {n : Int} (h : A.isV n = true) : ∃ i : Nat, n = (i : Int) + 1 ∧ A.ver i = true := by
  unfold ASt.isV at h; simp only [Bool.and_eq_true, decide_eq_true_eq] at h; exact ⟨(n - 1).toNat, by omega, h.2⟩
theorem isT_at {A : ASt} {n : Int} (h : A.isT n = true) : ∃ i : Nat, n = (i : Int) + 1 ∧ A.txn i = true := by
  unfold ASt.isT at h; simp only [Bool.and_eq_true, decide_eq_true_eq] at h; exact ⟨(n - 1).toNat, by omega, h.2⟩
theorem isN_no {A : ASt} {n : Int} (h : A.isN n = false) : ∀ i : Nat, n = (i : Int) + 1 → A.nN ≤ i := by
  intro i hi; subst hi; unfold ASt.isN at h; simp at h; omega
theorem isV_no {A : ASt} {n : Int} (h : A.isV n = false) : ∀ i : Nat, n = (i : Int) + 1 → A.ver i = false := by
  intro i hi
  subst hi; unfold ASt.isV at h
  have e : ((i : Int) + 1 - 1).toNat = i := by omega
  rw [e] at h
  simp at h; exact h (by omega)
theorem isT_no {A : ASt} {n : Int} (h : A.isT n = false) : ∀ i : Nat, n = (i : Int) + 1 → A.txn i = false := by
  intro i hi
  subst hi; unfold ASt.isT at h
  have e : ((i : Int) + 1 - 1).toNat = i := by omega
  rw [e] at h
  simp at h; exact h (by omega)

set_option maxHeartbeats 1000000 in
set_option maxRecDepth 100000 in
theorem rnode_walk (h : Has o w0 w (RfP b x A fr rs)) (n : Int) :
    Calls Tryd.prog 41 #[.pointer (some ⟨b, 0, none⟩), .int .i64 n] w fun e w' => e = .returned (.bool (A.isN n)) ∧ w' = w := by
  obtain ⟨c0, _⟩ := RfP.fields h
  obtain ⟨⟨p, c, hv⟩, _⟩ := RfP.slices h
  have h9 : A.nN ≤ 9223372036854775807 := Nat.le_trans (RfP.small h).1 (by decide)
  rw [hv] at c0
  clear h hv
  unfold ASt.isN
  go_enter Tryd.func41, Tryd.ntmps41
  by_cases h1 : 1 ≤ n
  · have d1 : decide (n ≥ 1) = true := by simpa using h1
    have d2 : decide (1 ≤ n) = true := by simpa using h1
    rw [d2]
    go_wp2_with fail
    go_ret
    exact ⟨rfl, rfl⟩
  · have d1 : decide (n ≥ 1) = false := by simpa using h1
    have d2 : decide (1 ≤ n) = false := by simpa using h1
    rw [d2]
    go_wp2_with fail
    go_ret
    exact ⟨rfl, rfl⟩

set_option maxHeartbeats 1000000 in
set_option maxRecDepth 100000 in
theorem rversion_walk (h : Has o w0 w (RfP b x A fr rs)) (n : Int) :
    Calls Tryd.prog 60 #[.pointer (some ⟨b, 0, none⟩), .int .i64 n] w fun e w' => e = .returned (.bool (A.isV n)) ∧ w' = w := by
  obtain ⟨_, c1, _⟩ := RfP.fields h
  obtain ⟨_, ⟨p, c, hv⟩, _⟩ := RfP.slices h
  have h9 : A.nV ≤ 9223372036854775807 := Nat.le_trans (RfP.small h).2.1 (by decide)
  have HX := Lib.hid h
  clear h
  go_enter Tryd.func60, Tryd.ntmps60
  by_cases h1 : 1 ≤ n
  · have d1 : decide (n ≥ 1) = true := by simpa using h1
    by_cases h2 : n ≤ (A.nV : Int)
    · have d2 : decide (n ≤ (A.nV : Int)) = true := by simpa using h2
      obtain ⟨i, hi⟩ : ∃ i : Nat, n = (i : Int) + 1 := ⟨(n - 1).toNat, by omega⟩
      have hlt : i < A.nV := by omega
      obtain ⟨g, cap, e, _, _, _, _, _, cg, _⟩ := RfP.ver HX.out hlt
      rw [e] at c1
      have hb : 0 ≤ (i : Int) ∧ (i : Int) < (A.nV : Int) := by omega
      have ev : A.isV n = !(A.V i).gone := by
        subst hi
        unfold ASt.isV ASt.ver
        rw [show ((i : Int) + 1 - 1).toNat = i by omega]
        simp [hlt]; omega
      rw [ev]
      clear hv e ev
      subst hi
      generalize (A.V i).gone = gb at *
      go_wp2_with fail
      go_ret
      exact ⟨rfl, rfl⟩
    · have d2 : decide (n ≤ (A.nV : Int)) = false := by simpa using h2
      have ev : A.isV n = false := by
        unfold ASt.isV ASt.ver; simp; omega
      rw [ev]
      rw [hv] at c1
      clear hv
      go_wp2_with fail
      go_ret
      exact ⟨rfl, rfl⟩
  · have d1 : decide (n ≥ 1) = false := by simpa using h1
    have ev : A.isV n = false := by unfold ASt.isV; simp; omega
    rw [ev]
    clear hv
    go_wp2_with fail
    go_ret
    exact ⟨rfl, rfl⟩

end Go.Proofs.YtbodobdllchmgaaDoor
namespace Go.Proofs.YtbodobdllchmgaaDoor
open Go Go.RowKit
set_option linter.unusedVariables false

variable {o : List Nat} {w0 w : World} {b ob : Nat} {A : ASt} {cur fv nv : Value} {mark gone : Int} {dn : Bool} {l : List Int}

abbrev Pt (b : Nat) : Value := .pointer (some ⟨b, 0, none⟩)
/-- A sweep under way: its store, its block, the nodes it was given. -/
noncomputable def Part.sw (b ob : Nat) (A : ASt) (cur : Value) (mark : Int) (fv : Value) (gone : Int) (dn : Bool) (nv : Value) (l : List Int) : Part :=
  (Part.store b A).sep ((Part.blk ob 6 66 (opF (Pt b) cur mark fv gone dn)).sep (.ints nv l))

theorem sw_fields (h : Has o w0 w (.sw b ob A cur mark fv gone dn nv l)) : w.cell? ⟨ob, 0, none⟩ = some (Pt b) ∧ w.cell? ⟨ob, 1, none⟩ = some cur ∧ w.cell? ⟨ob, 2, none⟩ = some (.int .i64 mark) ∧ w.cell? ⟨ob, 3, none⟩ = some fv ∧ w.cell? ⟨ob, 4, none⟩ = some (.int .i64 gone) ∧ w.cell? ⟨ob, 5, none⟩ = some (.bool dn) ∧ ∀ i, i < 6 → w.frozen? ⟨ob, i, none⟩ = false := by
  obtain ⟨_, h1, _⟩ := Has.right (A := .store b A) h
  obtain ⟨_, h2, _⟩ := h1.left
  exact ⟨(h2.blkAt (i := 0) (by omega)).1, (h2.blkAt (i := 1) (by omega)).1, (h2.blkAt (i := 2) (by omega)).1, (h2.blkAt (i := 3) (by omega)).1, (h2.blkAt (i := 4) (by omega)).1, (h2.blkAt (i := 5) (by omega)).1, fun i hi => (h2.blkAt hi).2.1⟩
theorem sw_put (h : Has o w0 w (.sw b ob A cur mark fv gone dn nv l)) (cur' fv' : Value) (gone' : Int) (dn' : Bool) (i : Nat) (v : Value) (hi : i < 6) (e : ∀ j, j < 6 → upd (opF (Pt b) cur mark fv gone dn) i v j = opF (Pt b) cur' mark fv' gone' dn' j) :
    Has o w0 (w.setCell ⟨ob, i, none⟩ v) (.sw b ob A cur' mark fv' gone' dn' nv l) := by
  obtain ⟨_, h1, _, _, b1⟩ := Has.right (A := .store b A) h
  obtain ⟨_, h2, _, _, b2⟩ := h1.left
  refine b1 _ _ (b2 _ _ (((h2.blkAt hi).2.2 v).mono ?_))
  rintro fp ⟨hb, rfl⟩
  exact ⟨hb.congr e, rfl⟩
theorem opF_upd (sv cur : Value) (mark : Int) (fv : Value) (gone : Int) (dn : Bool) :
    (∀ v j, j < 6 → upd (opF sv cur mark fv gone dn) 1 v j = opF sv v mark fv gone dn j) ∧ (∀ v j, j < 6 → upd (opF sv cur mark fv gone dn) 3 v j = opF sv cur mark v gone dn j) ∧
    (∀ v j, j < 6 → upd (opF sv cur mark fv gone dn) 4 (.int .i64 v) j = opF sv cur mark fv v dn j) ∧ (∀ v j, j < 6 → upd (opF sv cur mark fv gone dn) 5 (.bool v) j = opF sv cur mark fv gone v j) := by
  refine ⟨fun v j hj => ?_, fun v j hj => ?_, fun v j hj => ?_, fun v j hj => ?_⟩ <;>
    (unfold upd opF; rcases (by omega : j = 0 ∨ j = 1 ∨ j = 2 ∨ j = 3 ∨ j = 4 ∨ j = 5) with rfl | rfl | rfl | rfl | rfl | rfl <;> simp)
theorem sw_store (h : Has o w0 w (.sw b ob A cur mark fv gone dn nv l)) : ∃ o', Has o' w w (.store b A) ∧ (∀ y ∈ o', y ∈ o ∨ w0.heap.size ≤ y) ∧ ∀ w' A', Has o' w w' (.store b A') → Has o w0 w' (.sw b ob A' cur mark fv gone dn nv l) := by
  obtain ⟨o1, h1, p1, _, b1⟩ := Has.left (A := .store b A) h
  exact ⟨o1, h1, p1, fun w' A' h' => b1 _ _ h'⟩
theorem sw_num (h : Has o w0 w (.sw b ob A cur mark fv gone dn nv l)) {g c : Nat} (hnv : nv = .slice (some ⟨g, 0, none⟩) l.length c) {k : Nat} (hk : k < l.length) : w.cell? ⟨g, k, none⟩ = some (.int .i64 (l.getD k 0)) := by
  obtain ⟨_, h1, _⟩ := Has.right (A := .store b A) h
  obtain ⟨_, h2, _⟩ := h1.right
  obtain ⟨p, cap, e, hc⟩ := h2.intsAt
  rw [hnv] at e
  obtain ⟨g2, off, hp, _, hcell⟩ := hc (by omega)
  rw [hp] at e
  obtain ⟨rfl, rfl⟩ : g = g2 ∧ 0 = off := by simp at e; exact ⟨e.1.1, e.1.2⟩
  have := hcell k hk
  rwa [Nat.zero_add] at this

set_option maxHeartbeats 1000000 in
set_option maxRecDepth 100000 in
theorem node_end {p : Option Addr} {c : Nat} (h : Has o w0 w (.sw b ob A (.slice p 0 c) mark fv gone dn nv l)) :
    Calls Tryd.prog 32 #[Pt ob] w fun e w' => e = .returned (.bool true) ∧ w' = w := by
  obtain ⟨_, c1, _⟩ := sw_fields h
  clear h
  go_enter Tryd.func32, Tryd.ntmps32
  go_wp2_with fail
  go_ret
  exact ⟨rfl, rfl⟩

set_option maxHeartbeats 4000000 in
set_option maxRecDepth 100000 in
/-- A node that isn't there, or has no version. -/
theorem node_skip {g k m c cap : Nat} (h : Has o w0 w (.sw b ob A (.slice (some ⟨g, k, none⟩) (m + 1) (c + 1)) mark fv gone dn nv l)) (hnv : nv = .slice (some ⟨g, 0, none⟩) l.length cap) (hk : k + (m + 1) = l.length) (hc : m ≤ c) (hc9 : c < 9223372036854775807)
    (hn : A.isN (l.getD k 0) = false ∨ ∃ i : Nat, l.getD k 0 = (i : Int) + 1 ∧ A.at_ (.head i) = some 0) :
    Calls Tryd.prog 32 #[Pt ob] w fun e w' => e = .returned (.bool false) ∧ ∃ st k', (0 < m → k' = k + 1) ∧ Has o w0 w' (.sw b ob (A.at st) (.slice (some ⟨g, k', none⟩) m c) mark fv gone dn nv l) := by
  obtain ⟨c0, c1, _, _, _, _, zf⟩ := sw_fields h
  have z1 := zf 1 (by omega)
  have cg := sw_num h hnv (k := k) (by omega)
  obtain ⟨k', hk', hview⟩ : ∃ k', (0 < m → k' = k + 1) ∧ ((c = 0 ∧ m = 0 ∧ k' = k) ∨ ∃ c', c = c' + 1 ∧ k' = k + 1) := by
    by_cases h0 : c = 0
    · exact ⟨k, fun h => by omega, .inl ⟨h0, by omega, rfl⟩⟩
    · exact ⟨k + 1, fun _ => rfl, .inr ⟨c - 1, by omega, rfl⟩⟩
  have hX := sw_put h (.slice (some ⟨g, k', none⟩) m c) fv gone dn 1 _ (by omega) ((opF_upd (Pt b) _ mark fv gone dn).1 _)
  have HX := Lib.hid hX
  generalize l.getD k 0 = x at *
  have hm9 : m < 9223372036854775807 := by omega
  by_cases hno : A.isN x = false
  · obtain ⟨o1, h1, _, b1⟩ := sw_store hX
    have HH := Lib.hid (head_no h1 x (isN_no hno))
    clear h zf hX h1 b1 hk hnv hn hno hk'
    rcases hview with ⟨rfl, rfl, rfl⟩ | ⟨c', rfl, rfl⟩
    all_goals (
      go_enter Tryd.func32, Tryd.ntmps32
      go_wp2_with fail
      refine HH.out.mono ?_
      rintro e w' ⟨rfl, rfl⟩
      go_wp2_with fail
      go_ret
      exact ⟨rfl, A.steps, _, fun hm => by first | rfl | omega, HX.out⟩)
  · obtain ⟨i, rfl, hh⟩ := hn.resolve_left hno
    obtain ⟨o1, h1, _, b1⟩ := sw_store hX
    have HH := Lib.hid ((head_at h1 i 0 hh (by omega)).mono (R' := fun e w' => e = .returned (.tuple #[.int .i64 0, .int .i64 0]) ∧ Has o w0 w' (.sw b ob A.step (.slice (some ⟨g, k', none⟩) m c) mark fv gone dn nv l)) (by
      rintro e w' ⟨rfl, h'⟩
      exact ⟨rfl, b1 _ _ h'⟩))
    clear h zf hX h1 b1 hk hnv hn hno hh hk'
    rcases hview with ⟨rfl, rfl, rfl⟩ | ⟨c', rfl, rfl⟩
    all_goals (
      go_enter Tryd.func32, Tryd.ntmps32
      go_wp2_with fail
      refine HH.out.mono ?_
      rintro e w' ⟨rfl, hX2⟩
      have HX2 := Lib.hid hX2
      clear hX2
      go_wp2_with fail
      go_ret
      exact ⟨rfl, wrap64 (A.steps + 1), _, fun hm => by first | rfl | omega, HX2.out⟩)

/-- What a step's call leaves, whatever it is. -/
theorem step_calls {f : FuncId} {first captured : Array Value} {r : Bool} {P : World → Prop} (h : Has o w0 w (.sw b ob A cur mark (.func (.func f) first captured) gone false nv l))
    (he : (callFunc f (first ++ captured)).run Tryd.prog w = .ok (.enter f (first ++ captured)) w)
    (hc : Calls Tryd.prog f (first ++ captured) w fun e w' => e = .returned (.bool r) ∧ P w') (hp : ∀ w', P w' → ∃ u, w'.cell? ⟨ob, 5, none⟩ = some u ∧ w'.frozen? ⟨ob, 5, none⟩ = false) :
    Calls Tryd.prog 11 #[Pt ob] w fun e w' => e = .returned (.bool r) ∧ ∃ w2, P w2 ∧ w' = w2.setCell ⟨ob, 5, none⟩ (.bool r) := by
  obtain ⟨c0, _, _, c3, _, c5, _⟩ := sw_fields h
  have HC := Lib.hid hc
  have HP := Lib.hid hp
  clear h hc hp
  go_enter Tryd.func11, Tryd.ntmps11
  go_wp2_with fail
  refine HC.out.mono ?_
  rintro e w2 ⟨rfl, hP⟩
  obtain ⟨u, x5, z5⟩ := HP.out _ hP
  have HPP := Lib.hid hP
  clear hP
  go_wp2_with fail
  go_ret
  exact ⟨rfl, w2, HPP.out, rfl⟩

theorem enter_node (args : Array Value) (w : World) : (callFunc 32 args).run Tryd.prog w = .ok (.enter 32 args) w := by kernel_rfl
set_option maxHeartbeats 1000000 in
set_option maxRecDepth 100000 in
theorem step_over (h : Has o w0 w (.sw b ob A cur mark fv gone true nv l)) :
    Calls Tryd.prog 11 #[Pt ob] w fun e w' => e = .returned (.bool true) ∧ w' = w := by
  obtain ⟨c0, _, _, c3, _, c5, _⟩ := sw_fields h
  clear h
  go_enter Tryd.func11, Tryd.ntmps11
  go_wp2_with fail
  go_ret
  exact ⟨rfl, rfl⟩
set_option maxHeartbeats 1000000 in
set_option maxRecDepth 100000 in
theorem step_nil (w : World) :
    Calls Tryd.prog 11 #[.pointer none] w fun e w' => e = .returned (.bool true) ∧ w' = w := by
  go_enter Tryd.func11, Tryd.ntmps11
  go_wp2_with fail
  go_ret
  exact ⟨rfl, rfl⟩
set_option maxHeartbeats 1000000 in
set_option maxRecDepth 100000 in
theorem step_none (w : World) (h : w.cell? ⟨ob, 0, none⟩ = some (.pointer none)) :
    Calls Tryd.prog 11 #[Pt ob] w fun e w' => e = .returned (.bool true) ∧ w' = w := by
  go_enter Tryd.func11, Tryd.ntmps11
  go_wp2_with fail
  go_ret
  exact ⟨rfl, rfl⟩
set_option maxHeartbeats 1000000 in
set_option maxRecDepth 100000 in
theorem gone_at (h : Has o w0 w (.sw b ob A cur mark fv gone dn nv l)) :
    Calls Tryd.prog 12 #[Pt ob] w fun e w' => e = .returned (.tuple #[.int .i64 (if dn = true then gone else 0), .int .i64 (if dn = true then 0 else 2)]) ∧ w' = w := by
  obtain ⟨c0, _, _, c3, c4, c5, _⟩ := sw_fields h
  clear h
  cases dn
  all_goals (
    go_enter Tryd.func12, Tryd.ntmps12
    go_wp2_with fail
    go_ret2
    exact ⟨rfl, rfl⟩)
set_option maxHeartbeats 1000000 in
set_option maxRecDepth 100000 in
theorem gone_nil (w : World) :
    Calls Tryd.prog 12 #[.pointer none] w fun e w' => e = .returned (.tuple #[.int .i64 0, .int .i64 1]) ∧ w' = w := by
  go_enter Tryd.func12, Tryd.ntmps12
  go_wp2_with fail
  go_ret2
  exact ⟨rfl, rfl⟩
set_option maxHeartbeats 1000000 in
set_option maxRecDepth 100000 in
theorem gone_none (w : World) (h : w.cell? ⟨ob, 0, none⟩ = some (.pointer none)) :
    Calls Tryd.prog 12 #[Pt ob] w fun e w' => e = .returned (.tuple #[.int .i64 0, .int .i64 1]) ∧ w' = w := by
  go_enter Tryd.func12, Tryd.ntmps12
  go_wp2_with fail
  go_ret2
  exact ⟨rfl, rfl⟩

/-- So many steps more: what stepping to the end does. -/
def Runs (ob : Nat) (R : Nat → World → Prop) (F : World → Prop) : Prop :=
  (∀ n w, R (n + 1) w → Calls Tryd.prog 11 #[Pt ob] w fun e w' => e = .returned (.bool false) ∧ R n w') ∧
  (∀ w, R 0 w → Calls Tryd.prog 11 #[Pt ob] w fun e w' => e = .returned (.bool true) ∧ F w')

set_option maxHeartbeats 1000000 in
set_option maxRecDepth 100000 in
theorem done_walk {R : Nat → World → Prop} {F : World → Prop} (hR : Runs ob R F) (n : Nat) (most : Int) (hm : (n : Int) + 1 ≤ most) (hm9 : most ≤ 1000000000000) (h : R n w) :
    Calls Tryd.prog 20 #[Pt ob, .int .i64 most] w fun e w' => e = .returned (.int .i64 ((n : Int) + 1)) ∧ F w' := by
  have HR := Lib.hid hR
  have H := Lib.hid h
  clear hR h
  go_enter Tryd.func20, Tryd.ntmps20
  go_wp2_with fail
  go_loopg [5] n (fun k iv wr => ∃ i : Nat, i ≤ n ∧ k = n - i ∧ iv = .int .i64 ((i : Int) + 1) ∧ R (n - i) wr)
  case atStart => exact ⟨0, Nat.zero_le _, rfl, rfl, H.out⟩
  case round =>
    clear H
    obtain ⟨i, hi, hk, rfl, hX⟩ := hrel
    have HKK := Lib.hid hk
    have d1 : decide ((i : Int) + 1 ≤ most) = true := by simp; omega
    by_cases hlt : i < n
    · have hx : R (n - (i + 1) + 1) wr := by rw [show n - (i + 1) + 1 = n - i by omega]; exact hX
      have HS := Lib.hid (HR.out.1 _ _ hx)
      clear hk hX hx
      go_wp2_with fail
      refine HS.out.mono ?_
      rintro e w2 ⟨rfl, hX⟩
      have HX := Lib.hid hX
      clear hX
      go_wp2_with fail
      go_roundg (n - (i + 1))
      case measure => rw [HKK.out]; omega
      case rel => exact ⟨i + 1, by omega, rfl, by go_num, HX.out⟩
    · obtain rfl : i = n := by omega
      have hx : R 0 wr := by rw [show i - i = 0 by omega] at hX; exact hX
      have HS := Lib.hid (HR.out.2 _ hx)
      clear hk hX hx
      go_wp2_with fail
      refine HS.out.mono ?_
      rintro e w2 ⟨rfl, hX⟩
      have HX := Lib.hid hX
      clear hX
      go_wp2_with fail
      go_ret
      exact ⟨rfl, HX.out⟩

theorem sw_done (h : Has o w0 w (.sw b ob A cur mark fv gone dn nv l)) (r : Bool) : Has o w0 (w.setCell ⟨ob, 5, none⟩ (.bool r)) (.sw b ob A cur mark fv gone r nv l) :=
  sw_put h cur fv gone r 5 _ (by omega) ((opF_upd (Pt b) cur mark fv gone dn).2.2.2 r)
theorem sw_five (h : Has o w0 w (.sw b ob A cur mark fv gone dn nv l)) : ∃ u, w.cell? ⟨ob, 5, none⟩ = some u ∧ w.frozen? ⟨ob, 5, none⟩ = false := by
  obtain ⟨_, _, _, _, _, c5, z⟩ := sw_fields h
  exact ⟨_, c5, z 5 (by omega)⟩

/-- Step, where node is next and there is nothing to sweep. -/
theorem step_skip {g k m c cap : Nat} (h : Has o w0 w (.sw b ob A (.slice (some ⟨g, k, none⟩) (m + 1) (c + 1)) mark (.func (.func 32) #[Pt ob] #[]) gone false nv l)) (hnv : nv = .slice (some ⟨g, 0, none⟩) l.length cap) (hk : k + (m + 1) = l.length) (hc : m ≤ c) (hc9 : c < 9223372036854775807)
    (hn : A.isN (l.getD k 0) = false ∨ ∃ i : Nat, l.getD k 0 = (i : Int) + 1 ∧ A.at_ (.head i) = some 0) :
    Calls Tryd.prog 11 #[Pt ob] w fun e w' => e = .returned (.bool false) ∧ ∃ st k', (0 < m → k' = k + 1) ∧ Has o w0 w' (.sw b ob (A.at st) (.slice (some ⟨g, k', none⟩) m c) mark (.func (.func 32) #[Pt ob] #[]) gone false nv l) := by
  refine (step_calls h (enter_node _ _) (node_skip h hnv hk hc hc9 hn) (fun w' => ?_)).mono ?_
  · rintro ⟨st, k', _, h'⟩
    exact sw_five h'
  · rintro e w' ⟨rfl, w2, ⟨st, k', h1, h2⟩, rfl⟩
    exact ⟨rfl, st, k', h1, sw_done h2 false⟩
theorem step_end {p : Option Addr} {c : Nat} (h : Has o w0 w (.sw b ob A (.slice p 0 c) mark (.func (.func 32) #[Pt ob] #[]) gone false nv l)) :
    Calls Tryd.prog 11 #[Pt ob] w fun e w' => e = .returned (.bool true) ∧ Has o w0 w' (.sw b ob A (.slice p 0 c) mark (.func (.func 32) #[Pt ob] #[]) gone true nv l) := by
  refine (step_calls h (enter_node _ _) ((node_end h).mono (R' := fun e w' => e = .returned (.bool true) ∧ Has o w0 w' (.sw b ob A (.slice p 0 c) mark (.func (.func 32) #[Pt ob] #[]) gone false nv l)) ?_) (fun w' h' => sw_five h')).mono ?_
  · rintro e w' ⟨rfl, rfl⟩
    exact ⟨rfl, h⟩
  · rintro e w' ⟨rfl, w2, h2, rfl⟩
    exact ⟨rfl, sw_done h2 true⟩
end Go.Proofs.YtbodobdllchmgaaDoor
