/- The walks of New and Node. -/
import Derived.Test.YtbodobdllchmgaaDoorStoreTake
import Derived.Deep.RegionHeldLaw
import Derived.Deep.RegionLaw
namespace Go.Proofs.YtbodobdllchmgaaDoor
open Go Go.RowKit
set_option linter.unusedVariables false

variable {o : List Nat} {w0 w : World} {b : Nat} {A : ASt}

/-- An append to a row of one's own, as one step of a region that draws its order. -/
theorem step_append_new {P : Program} {ops : Array Oper} {o : Oper} {a : Act} {w : World} {K : Act → World → Prop} {Q : Exit → Act → World → Prop} {E : Prop}
    (hg : o.guard = none) (s x : Operand) (t : TypeId) (hop : o.op = Op.call { callee := Callee.builtin Builtin.append, args := #[s, x], argTypes := #[t, t] })
    (e : TypeId) (i : TypeInfo) (z : Value) (size bytes : Nat) (ht : P.underlying t = some (.slice e)) (hi : P.info? e = some i) (hz : i.zero = some z)
    (hsize : i.size = size) (hby : i.bytes = bytes) (hzs : z.cells.size = size) (hsz : 0 < size)
    (v : Value) (n : Nat) (xs : List Value) (hs : a.eval s = v) (hown : w.ownsRow 0 e size v n xs)
    (ad : Addr) (m c : Nat) (news : List Value) (hx : a.eval x = .slice (some ad) m c) (hl : news.length = m * size) (hnews : ∀ j u, news[j]? = some u → w.cell? (ad.add j) = some u) (h1 : ∀ u ∈ news, u.oneCell' = true)
    (h63 : n + m ≤ maxLen) (hbytes : (n + m) * bytes ≤ 140737488355328)
    (hK : ∀ v' w', Appended w w' e size v v' (n + m) (xs ++ news) → K (a.put o.dst v') w') :
    if Region.wanted o (yielded ops a.tmps) = true then Oper.wp P o a w K Q else E := by
  have hw : Region.wanted o (yielded ops a.tmps) = true := by simp [Region.wanted, hg]
  rw [if_pos hw]
  obtain ⟨v', w', hrun, h2⟩ := run_append_new (P := P) w t o.type e i z size bytes ht hi hz hsize hby hzs hsz v n xs hown ad m c news hl hnews h1 h63 hbytes
  unfold Oper.wp
  simp [execOp, hop, resolve, invoke, builtin, hs, hx, hrun, Result.andThen]
  exact hK v' w' h2

/-- A new store. -/
def newSt (ab size : Nat) (st : Int) : ASt := ⟨ab, size, st, 0, 0, 0, fun _ => (0, 0), fun _ => ⟨default, 0, 0, 0, true⟩, fun _ => (0, true)⟩

theorem newSt_at (ab size : Nat) (st : Int) (l : Loc) : (newSt ab size st).at_ l = none := by cases l <;> rfl

theorem cnt_none (n : Nat) : cnt (fun _ => none) n = 0 := by
  induction n with
  | zero => rfl
  | succ n ih => unfold cnt; rw [ih]; rfl

theorem newSt_rep (ab size : Nat) (hs : size ≤ 65536) (C : Cells) : StRep ⟨size, fun _ => none, 0⟩ C (newSt ab size 0) := by
  have no : ∀ {l : Loc} {v : Int}, (newSt ab size 0).at_ l = some v → False := fun {l v} h => by rw [newSt_at] at h; cases h
  refine ⟨rfl, hs, rfl, fun l v h => (no h).elim, fun l l' h _ _ => ?_, ?_, fun l v h => (no h).elim, fun i v h => (no h).elim, fun i v h => (no h).elim⟩
  · rw [newSt_at] at h; cases h
  · show cnt (fun _ => none) size = 0
    exact cnt_none _

set_option maxHeartbeats 1000000 in
set_option maxRecDepth 100000 in
theorem new_store {ab size : Nat} (hs : size ≤ 65536) (h : Has o w0 w (.arena ab ⟨size, fun _ => none, 0⟩)) :
    Calls Tryd.prog 29 #[.pointer (some ⟨ab, 0, none⟩)] w fun e w' => ∃ b, e = .returned (.tuple #[.pointer (some ⟨b, 0, none⟩), .int .i64 0]) ∧ Has o w0 w' (.store b (newSt ab size 0)) := by
  have HX := Lib.hid h
  clear h
  go_enter Tryd.func29, Tryd.ntmps29
  go_wp2_with fail
  go_ret2
  refine ⟨_, rfl, ?_⟩
  have h0 : Has o w0 w (.when (ab = ab) (.arena ab ⟨size, fun _ => none, 0⟩)) := Has.whenIn rfl HX.out
  have h1 := h0.beside (Has.madeBlk #[.pointer (some ⟨ab, 0, none⟩), .slice none 0 0, .slice none 0 0, .slice none 0 0] 94 (stF ab (.slice none 0 0) (.slice none 0 0) (.slice none 0 0)) 4 rfl (fun i hi => match i, hi with | 0, _ => rfl | 1, _ => rfl | 2, _ => rfl | 3, _ => rfl))
  have h2 := h1.swap.beside ((Has.rowsNil _ 96 2 (nodeF ⟨fun _ => (0, 0), fun _ => (0, 0, 0), fun _ => 0⟩)).beside ((Has.rowsNil _ 103 5 (verF ⟨fun _ => (0, 0), fun _ => (0, 0, 0), fun _ => 0⟩ (newSt ab size 0))).beside (Has.rowsNil _ 148 2 (txnF ⟨fun _ => (0, 0), fun _ => (0, 0, 0), fun _ => 0⟩ (newSt ab size 0)))))
  exact Has.stShut (x := ⟨ab, .slice none 0 0, .slice none 0 0, .slice none 0 0, ⟨size, fun _ => none, 0⟩, ⟨fun _ => (0, 0), fun _ => (0, 0, 0), fun _ => 0⟩⟩) (newSt_rep ab size hs _) h2

/-- A store with more words, in cells that were free. -/
theorem StRep.ext {S S' : Ar} {C C' : Cells} {A A' : ASt} {cs : List Nat} {f : Nat → Int} (h : StRep S C A) (ht : Took S cs) (hl : Laid S S' cs f) (nw : Loc → Nat → Prop)
    (hcase : ∀ l v, A'.at_ l = some v → (A.at_ l = some v ∧ C'.of l = C.of l) ∨ ∃ i, ∃ hi : i < cs.length, C'.of l = cs[i] ∧ v = f i ∧ nw l i)
    (hnw : ∀ l l' i, nw l i → nw l' i → l = l') (hsz : A'.size = A.size) (hst : A'.steps = S'.steps) (hu : A'.used = A.used + cs.length)
    (hf : ∀ i, i < cs.length → 0 ≤ f i ∧ f i < 18446744073709551616) (hh : ∀ i v, A'.at_ (.head i) = some v → v ≤ A'.nV) (hx : ∀ i v, A'.at_ (.next i) = some v → v ≤ i) : StRep S' C' A' := by
  have hold : ∀ l v, A.at_ l = some v → C.of l ∉ cs := fun l v hv hm => by
    have := h.has l v hv
    rw [(ht.free _ hm).1] at this
    cases this
  refine ⟨by rw [hl.size, hsz]; exact h.size, by rw [hsz]; exact h.big, hst.symm, fun l v hv => ?_, fun a b ha hb e => ?_, ?_, fun l v hv => ?_, hh, hx⟩
  · rcases hcase l v hv with ⟨h1, h2⟩ | ⟨i, hi, h1, rfl, _⟩
    · rw [h2, hl.rest _ (hold l v h1)]; exact h.has l v h1
    · rw [h1]; exact hl.has i hi
  · obtain ⟨v, hv⟩ := Option.isSome_iff_exists.1 ha
    obtain ⟨u, hu⟩ := Option.isSome_iff_exists.1 hb
    rcases hcase a v hv with ⟨h1, h2⟩ | ⟨i, hi, h1, _, n1⟩
    · rcases hcase b u hu with ⟨h3, h4⟩ | ⟨j, hj, h3, _, n2⟩
      · exact h.inj a b (by rw [h1]; rfl) (by rw [h3]; rfl) (by rw [← h2, ← h4]; exact e)
      · exact absurd (by rw [← h2, e, h3]; exact List.getElem_mem hj) (hold a v h1)
    · rcases hcase b u hu with ⟨h3, h4⟩ | ⟨j, hj, h3, _, n2⟩
      · exact absurd (by rw [← h4, ← e, h1]; exact List.getElem_mem hi) (hold b u h3)
      · have hij : i = j := by
          rw [h1, h3] at e
          rcases Nat.lt_trichotomy i j with hlt | he | hgt
          · exact absurd e (List.pairwise_iff_getElem.1 ht.nodup i j hi hj hlt)
          · exact he
          · exact absurd e.symm (List.pairwise_iff_getElem.1 ht.nodup j i hj hi hgt)
        subst hij
        exact hnw a b i n1 n2
  · rw [hu, ← h.count, ← ht.count, hl.size]
    refine cnt_some _ fun d => ?_
    rw [putAll_get]
    by_cases hd : d ∈ cs
    · obtain ⟨i, hi, e⟩ := List.mem_iff_getElem.1 hd
      rw [if_pos hd, ← e, hl.has i hi]; rfl
    · rw [if_neg hd, hl.rest d hd]
  · rcases hcase l v hv with ⟨h1, _⟩ | ⟨i, hi, _, rfl, _⟩
    · exact h.word l v h1
    · exact hf i hi

/-- One more node. -/
def ASt.addNode (A : ASt) (st : Int) : ASt := { A with steps := st, nN := A.nN + 1, N := fun j => if j = A.nN then (0, 0) else A.N j }
def Cells.addNode (C : Cells) (n c1 c2 : Nat) : Cells := { C with n := fun j => if j = n then (c1, c2) else C.n j }

theorem StRep.addNode {S S' : Ar} {C : Cells} {A : ASt} {c1 c2 : Nat} (h : StRep S C A) (ht : Took S [c1, c2]) (hl : Laid S S' [c1, c2] fun _ => 0) : StRep S' (C.addNode A.nN c1 c2) (A.addNode S'.steps) := by
  have hat : ∀ l v, (A.addNode S'.steps).at_ l = some v → (A.at_ l = some v ∧ (C.addNode A.nN c1 c2).of l = C.of l) ∨ ((l = .head A.nN ∧ v = 0) ∨ (l = .lock A.nN ∧ v = 0)) := by
    intro l v hv
    cases l with
    | head i =>
      simp only [ASt.at_, ASt.addNode] at hv
      by_cases e : i = A.nN
      · subst e; right; left; simp at hv; exact ⟨rfl, hv.symm⟩
      · left
        simp only [ASt.at_, Cells.of, Cells.addNode, if_neg e] at hv ⊢
        by_cases hi : i < A.nN
        · rw [if_pos hi]; rw [if_pos (by omega)] at hv; exact ⟨hv, trivial⟩
        · rw [if_neg (by omega)] at hv; cases hv
    | lock i =>
      simp only [ASt.at_, ASt.addNode] at hv
      by_cases e : i = A.nN
      · subst e; right; right; simp at hv; exact ⟨rfl, hv.symm⟩
      · left
        simp only [ASt.at_, Cells.of, Cells.addNode, if_neg e] at hv ⊢
        by_cases hi : i < A.nN
        · rw [if_pos hi]; rw [if_pos (by omega)] at hv; exact ⟨hv, trivial⟩
        · rw [if_neg (by omega)] at hv; cases hv
    | begin_ i => exact .inl ⟨hv, rfl⟩
    | end_ i => exact .inl ⟨hv, rfl⟩
    | next i => exact .inl ⟨hv, rfl⟩
    | state i => exact .inl ⟨hv, rfl⟩
  refine h.ext ht hl (fun l i => (l = .head A.nN ∧ i = 0) ∨ (l = .lock A.nN ∧ i = 1)) (fun l v hv => ?_) ?_ rfl rfl ?_ (fun i _ => by omega) (fun i v hv => ?_) (fun i v hv => ?_)
  · rcases hat l v hv with h1 | ⟨rfl, rfl⟩ | ⟨rfl, rfl⟩
    · exact .inl h1
    · exact .inr ⟨0, by simp, by simp [Cells.of, Cells.addNode], rfl, .inl ⟨rfl, rfl⟩⟩
    · exact .inr ⟨1, by simp, by simp [Cells.of, Cells.addNode], rfl, .inr ⟨rfl, rfl⟩⟩
  · rintro l l' i (⟨rfl, rfl⟩ | ⟨rfl, rfl⟩) (⟨rfl, h2⟩ | ⟨rfl, h2⟩)
    all_goals first | rfl | omega
  · show 2 * (A.nN + 1) + _ + _ = A.used + 2
    unfold ASt.used; simp only [ASt.addNode]; omega
  · rcases hat _ v hv with ⟨h1, _⟩ | ⟨_, rfl⟩ | ⟨_, rfl⟩
    · exact h.headLe i v h1
    · exact Int.natCast_nonneg _
    · exact Int.natCast_nonneg _
  · rcases hat _ v hv with ⟨h1, _⟩ | ⟨_, rfl⟩ | ⟨_, rfl⟩
    · exact h.nextLe i v h1
    · exact Int.natCast_nonneg _
    · exact Int.natCast_nonneg _

theorem stp_moreNode {w5 : World} {x : StIx} {B : Part} {v' : Value} {c1 c2 : Nat} (st : Int) (ob : Obj) (h : Has o w0 w ((StP b x A).sep B))
    (happ : Appended (w.alloc ob) w5 96 2 x.nv v' (A.nN + 1) (flatN A.nN (nodeF x.C) ++ [.int .i64 (c1 : Nat), .int .i64 (c2 : Nat)])) :
    (∃ o', Has o' w5 w5 B) ∧ w5.cell? ⟨b, 1, none⟩ = some x.nv ∧ w5.frozen? ⟨b, 1, none⟩ = false ∧ Has o w0 (w5.setCell ⟨b, 1, none⟩ v') ((StP b { x with nv := v', C := x.C.addNode A.nN c1 c2 } (A.addNode st)).sep B) := by
  obtain ⟨o1, h1, _, _, b1⟩ := h.left
  obtain ⟨o2, h2, _, _, b2⟩ := h1.right
  obtain ⟨o3, h3, _, _, b3⟩ := h2.left
  have h4 := Has.rowsMore ob h3 happ
  have h5 := b2 _ _ (b3 _ _ h4)
  obtain ⟨o6, h6, _, _, b6⟩ := h5.left
  obtain ⟨o7, h7, _, _, b7⟩ := h6.left
  obtain ⟨c, z, hput⟩ := h7.blkAt (i := 1) (by omega)
  obtain ⟨oo, hoo, _⟩ := (b1 _ _ h5).right
  refine ⟨⟨oo, hoo⟩, c, z, b1 _ _ ?_⟩
  have h8 := b6 _ _ (b7 _ _ (hput v'))
  have e1 : upd (stF x.ab x.nv x.vv x.tv) 1 v' = stF x.ab v' x.vv x.tv := funext fun i => by
    unfold upd stF
    by_cases e : i = 1
    · subst e; rfl
    · simp [e]
  have e2 : (fun d => if d = A.nN then [Value.int .i64 (c1 : Nat), .int .i64 (c2 : Nat)] else nodeF x.C d) = nodeF (x.C.addNode A.nN c1 c2) := funext fun d => by
    unfold nodeF Cells.addNode
    by_cases e : d = A.nN <;> simp [e]
  rw [e1, e2] at h8
  exact h8

theorem info_node : (Tryd.prog.info? 96).map (fun i => (i.zero, i.size, i.bytes)) = some (some (.agg #[.int .i64 0, .int .i64 0]), 2, 16) := by kernel_rfl

theorem cells_two (w : World) (n : Nat) (c1 c2 : Int) (t : TypeId) (hn : n = w.heap.size) : ∀ j u, [Value.int .i64 c1, .int .i64 c2][j]? = some u → (w.alloc (.cells #[.int .i64 c1, .int .i64 c2] t)).cell? ((⟨n, 0, none⟩ : Addr).add j) = some u := by
  subst hn
  intro j u hu
  have h : j < 2 := by have := (List.getElem?_eq_some_iff.1 hu).1; simpa using this
  have hb := Blk.made w #[.int .i64 c1, .int .i64 c2] t (fun i => [Value.int .i64 c1, .int .i64 c2].getD i default) 2 rfl (fun i hi => match i, hi with | 0, _ => rfl | 1, _ => rfl)
  rw [addr0, hb.cell h, List.getD_eq_getElem?_getD, hu]
  rfl

theorem wordsMade (vs : Array Value) (f : Nat → Int) (m : Nat) (hm : vs.size = m) (hf : ∀ i, i < m → vs[i]? = some (.int .u64 (f i))) : Has [] w (w.alloc (.cells vs 56)) (.words w.heap.size m f) :=
  Has.madeBlk vs _ _ m hm hf

set_option maxHeartbeats 4000000 in
set_option maxRecDepth 100000 in
theorem node_make (h : Has o w0 w (.store b A)) (hT : TabAt w0) (ho : 0 ∉ o) (hfree : A.used + 2 ≤ A.size) :
    Calls Tryd.prog 30 #[.pointer (some ⟨b, 0, none⟩)] w fun e w' => e = .returned (.tuple #[.int .i64 ((A.nN : Int) + 1), .int .i64 0]) ∧ ∃ st, Has o w0 w' (.store b (A.addNode st)) := by
  obtain ⟨x, hr, h⟩ := h.stOpen
  have h2 := h.beside (wordsMade (w := w) #[.int .u64 0, .int .u64 0] (fun _ => 0) 2 rfl (fun i hi => match i, hi with | 0, _ => rfl | 1, _ => rfl))
  have HTK := Lib.hid (take_ok h2 hT ho (by omega) (by rw [hr.count, hr.size]; exact hfree))
  have HR := Lib.hid hr
  have h16 : A.nN ≤ 65536 := by have := hr.big; have : 2 * A.nN ≤ A.used := by unfold ASt.used; omega
                                omega
  obtain ⟨i0, hi0, hz0, hz1, hz2⟩ := info_parts info_node
  clear h h2 hr hT ho hfree
  go_enter Tryd.func30, Tryd.ntmps30
  go_wp2_with fail
  refine HTK.out.mono ?_
  rintro e w2 ⟨uv, cs, S', rfl, hcl, htk, hld, hX⟩
  obtain ⟨c1, c2, rfl⟩ : ∃ c1 c2, cs = [c1, c2] := by
    match cs, hcl with
    | [c1, c2], _ => exact ⟨c1, c2, rfl⟩
  have hX2 : Has o w0 w2 ((StP b { x with S := S' } A).sep (.nums uv [c1, c2])) := hX.weaken (Part.Imp.sep (Part.Imp.refl _) (Part.Imp.snd _ _))
  have HRN := Lib.hid (HR.out.addNode htk hld)
  obtain ⟨o3, h3, _⟩ := hX2.right
  obtain ⟨np, nc, rfl, _, _, hc⟩ := nums_open h3
  obtain ⟨g, rfl, hc2⟩ := hc (by simp)
  have y1 : w2.cell? ⟨g, 0, none⟩ = some (.int .i64 (c1 : Nat)) := hc2 0 (by simp)
  have y2 : w2.cell? ⟨g, 1, none⟩ = some (.int .i64 (c2 : Nat)) := hc2 1 (by simp)
  simp only [List.length_cons, List.length_nil] at *
  obtain ⟨o4, h4, _⟩ := hX2.left
  obtain ⟨y0, y3, _, _⟩ := StP.fields h4
  obtain ⟨o5, h5⟩ := StP.nodes h4
  have HROW := Lib.hid h5.rowsOwn
  have HX := Lib.hid hX2
  clear hX hX2 h3 h4 h5 hc hc2 hcl htk hld HTK
  go_wp2_with fail
  have HROW2 := Lib.hid (show w2.drew.ownsRow 0 96 2 x.nv A.nN (flatN A.nN (nodeF x.C)) from HROW.out)
  have HXD := Lib.hid (HX.out.quiet ((Kept.refl [] w2).drew))
  have y3a : (w2.alloc (.cells #[.int .i64 (c1 : Nat), .int .i64 (c2 : Nat)] 96)).cell? ⟨b, 1, none⟩ = some x.nv := ((Kept.refl [] w2).alloc _).cell y3 (by simp)
  go_region_law
    (refine step_append_new rfl (.tmp 21) (.tmp 29) 90 rfl 96 i0 (.agg #[.int .i64 0, .int .i64 0]) 2 16 Tryd.underlying90 hi0 hz0 hz1 hz2 rfl (by decide) x.nv A.nN (flatN A.nN (nodeF x.C)) rfl (HROW2.out.alloc _) ⟨_, 0, none⟩ 1 1 [.int .i64 (c1 : Nat), .int .i64 (c2 : Nat)] rfl rfl (cells_two _ _ _ _ _ (by simp)) (by simp [Value.oneCell']) (by simp only [maxLen]; omega) (by omega) ?_
     intro v' w5 happ
     obtain ⟨⟨o7, h7⟩, z3, zf, hP⟩ := stp_moreNode S'.steps _ HXD.out happ
     obtain ⟨_, _, he7, _, _, hc7⟩ := nums_open h7
     obtain ⟨g7, hg7, hc7⟩ := hc7 (by simp)
     obtain rfl : g = g7 := by simp only [Value.slice.injEq] at he7; rw [← he7.1] at hg7; simpa using hg7
     have z1 : w5.cell? ⟨g, 0, none⟩ = some (.int .i64 (c1 : Nat)) := hc7 0 (by simp)
     have z2 : w5.cell? ⟨g, 1, none⟩ = some (.int .i64 (c2 : Nat)) := hc7 1 (by simp)
     obtain ⟨gv, vcap, rfl⟩ : ∃ gv vcap, v' = .slice (some ⟨gv, 0, none⟩) (A.nN + 1) vcap := by
       rcases rowN_open happ.row with ⟨_, h0⟩ | ⟨gv, vc, e, _⟩
       · omega
       · exact ⟨gv, vc, e⟩
     obtain ⟨_, h9, _⟩ := hP.right
     obtain ⟨_, _, he9, _, _, hc9⟩ := nums_open h9
     obtain ⟨g9, hg9, hc9⟩ := hc9 (by simp)
     obtain rfl : g = g9 := by simp only [Value.slice.injEq] at he9; rw [← he9.1] at hg9; simpa using hg9
     have u1 : (w5.setCell ⟨b, 1, none⟩ (.slice (some ⟨gv, 0, none⟩) (A.nN + 1) vcap)).cell? ⟨g, 0, none⟩ = some (.int .i64 (c1 : Nat)) := hc9 0 (by simp)
     have u2 : (w5.setCell ⟨b, 1, none⟩ (.slice (some ⟨gv, 0, none⟩) (A.nN + 1) vcap)).cell? ⟨g, 1, none⟩ = some (.int .i64 (c2 : Nat)) := hc9 1 (by simp)
     have HP := Lib.hid hP
     clear happ h7 he7 hc7 hP h9 he9 hc9)
  all_goals (
    go_wp2_with fail
    go_ret2
    exact ⟨rfl, S'.steps, Has.stShut (x := { x with nv := .slice (some ⟨gv, 0, none⟩) (A.nN + 1) vcap, S := S', C := x.C.addNode A.nN c1 c2 }) HRN.out HP.out.fst⟩)
end Go.Proofs.YtbodobdllchmgaaDoor
