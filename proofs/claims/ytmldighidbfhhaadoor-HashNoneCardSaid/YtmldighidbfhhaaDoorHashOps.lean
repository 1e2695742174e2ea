/- The walks of an entry's place, of one more entry; found and last. -/
import Derived.Test.YtmldighidbfhhaaDoorHashNew
namespace Go.Proofs.YtmldighidbfhhaaDoor
open Go Go.RowKit
set_option linter.unusedVariables false

variable {o : List Nat} {w0 w : World} {b : Nat} {x : HtIx} {T : AHt} {ob : Nat} {tb : Option Addr} {q : AHop}

theorem entF_len (C : HCells) (T : AHt) (i : Nat) : (entF C T i).length = 3 := rfl
theorem headF_len (C : HCells) (i : Nat) : (headF C i).length = 1 := rfl

theorem HtP.entSlice (h : Has o w0 w (HtP b x T)) (hi : 0 < T.nE) : ∃ g cap, x.ev = .slice (some ⟨g, 0, none⟩) T.nE cap := by
  obtain ⟨o1, h1⟩ := HtP.ents h
  obtain ⟨g, cap, e, _⟩ := h1.rowsAt (entF_len _ _) hi
  exact ⟨g, cap, e⟩
theorem HtP.entCells (h : Has o w0 w (HtP b x T)) {i : Nat} (hi : i < T.nE) {g cap : Nat} (hev : x.ev = .slice (some ⟨g, 0, none⟩) T.nE cap) :
    w.cell? ⟨g, i * 3, none⟩ = some (.string (T.E i).key) ∧ w.cell? ⟨g, i * 3 + 1, none⟩ = some (.int .i64 (T.E i).ref) ∧ w.cell? ⟨g, i * 3 + 2, none⟩ = some (.int .i64 (x.C.e i)) ∧ T.nE ≤ maxLen := by
  obtain ⟨o1, h1⟩ := HtP.ents h
  obtain ⟨g', cap', e, hc, _⟩ := h1.rowsAt (entF_len _ _) hi
  rw [hev] at e
  obtain ⟨rfl, rfl⟩ : g = g' ∧ cap = cap' := by simpa using e
  exact ⟨hc 0 _ rfl, hc 1 _ rfl, hc 2 _ rfl, h1.rowsSmall⟩
theorem HtP.headCell (h : Has o w0 w (HtP b x T)) {i : Nat} (hi : i < T.nB) : ∃ g cap, x.hv = .slice (some ⟨g, 0, none⟩) T.nB cap ∧ w.cell? ⟨g, i, none⟩ = some (.int .i64 (x.C.h i)) := by
  obtain ⟨o1, h1⟩ := HtP.heads h
  obtain ⟨g, cap, e, hc, _⟩ := h1.rowsAt (headF_len _) hi
  refine ⟨g, cap, e, ?_⟩
  have := hc 0 _ rfl
  rwa [Nat.mul_one, Nat.add_zero] at this

set_option maxHeartbeats 1000000 in
set_option maxRecDepth 100000 in
theorem at_walk (w : World) (g m cap i : Nat) (hi : i < m) (hm : m ≤ 9223372036854775807) :
    Calls Tryd.prog 29 #[.slice (some ⟨g, 0, none⟩) m cap, .int .u64 ((i : Int) + 1)] w fun e w' => e = .returned (.pointer (some ⟨g, i * 3, none⟩)) ∧ w' = w := by
  have hb : 0 ≤ (i : Int) ∧ (i : Int) < (m : Int) := by omega
  go_enter Tryd.func29, Tryd.ntmps29
  go_wp2_with fail
  go_ret
  exact ⟨rfl, rfl⟩

theorem htp_moreEnt {w5 : World} {v' : Value} {c : Nat} {key : ByteArray} {ref : Int} (ob : Obj) (h : Has o w0 w (HtP b x T))
    (happ : Appended (w.alloc ob) w5 73 3 x.ev v' (T.nE + 1) (flatN T.nE (entF x.C T) ++ [.string key, .int .i64 ref, .int .i64 (c : Nat)])) :
    w5.cell? ⟨b, 2, none⟩ = some x.ev ∧ w5.frozen? ⟨b, 2, none⟩ = false ∧ Has o w0 (w5.setCell ⟨b, 2, none⟩ v') (HtP b { x with ev := v', C := { x.C with e := fun j => if j = T.nE then c else x.C.e j } } (T.add key ref)) := by
  obtain ⟨o2, h2, _, _, b2⟩ := h.right
  obtain ⟨o3, h3, _, _, b3⟩ := h2.right
  have h4 := Has.rowsMore ob h3 happ
  have h5 := b2 _ _ (b3 _ _ h4)
  obtain ⟨o6, h6, _, _, b6⟩ := h5.left
  obtain ⟨o7, h7, _, _, b7⟩ := h6.left
  obtain ⟨c1, z, hput⟩ := h7.blkAt (i := 2) (by omega)
  refine ⟨c1, z, ?_⟩
  have h8 := b6 _ _ (b7 _ _ (blk_congr (g := htF (T.add key ref).ab x.hv v') (hput v') fun i hi => by
    unfold upd htF
    rcases (by omega : i = 0 ∨ i = 1 ∨ i = 2) with rfl | rfl | rfl <;> rfl))
  have e2 : (fun d => if d = T.nE then [Value.string key, Value.int .i64 ref, Value.int .i64 (c : Nat)] else entF x.C T d) = entF { x.C with e := fun j => if j = T.nE then c else x.C.e j } (T.add key ref) := funext fun d => by
    unfold entF AHt.add
    by_cases e : d = T.nE <;> simp [e]
  rw [e2] at h8
  exact h8

/-- An append to a row of one's own, as one step of a region that draws its order. -/
theorem step_append_new {P : Program} {ops : Array Oper} {o : Oper} {a : Act} {w : World} {K : Act → World → Prop} {Q : Exit → Act → World → Prop} {E : Prop}
    (hg : o.guard = none) (s x : Operand) (t : TypeId) (hop : o.op = Op.call { callee := Callee.builtin Builtin.append, args := #[s, x], argTypes := #[t, t] })
    (e : TypeId) (i : TypeInfo) (z : Value) (size bytes : Nat) (ht : P.underlying t = some (.slice e)) (hi : P.info? e = some i) (hz : i.zero = some z)
    (hsize : i.size = size) (hby : i.bytes = bytes) (hzs : z.cells.size = size) (hsz : 0 < size)
    (v : Value) (n : Nat) (xs : List Value) (hs : a.eval s = v) (hown : w.ownsRow 0 e size v n xs)
    (ad : Addr) (m c : Nat) (news : List Value) (hx : a.eval x = .slice (some ad) m c) (hl : news.length = m * size) (hnews : ∀ j u, news[j]? = some u → w.cell? (ad.add j) = some u) (h1 : ∀ u ∈ news, u.oneCell' = true)
    (h63 : n + m ≤ maxLen) (hbytes : (n + m) * bytes ≤ 140737488355328)
    (hK : ∀ v' w', Appended w w' e size v v' (n + m) (xs ++ news) → K (a.put o.dst v') w') :
    if Region.wanted o (yielded ops a.tmps) = true then Oper.wp P o a w K Q else E := by
  have hw : Region.wanted o (yielded ops a.tmps) = true := by simp [Region.wanted, hg]
  rw [if_pos hw]
  obtain ⟨v', w', hrun, h2⟩ := run_append_new (P := P) w t o.type e i z size bytes ht hi hz hsize hby hzs hsz v n xs hown ad m c news hl hnews h1 h63 hbytes
  unfold Oper.wp
  simp [execOp, hop, resolve, invoke, builtin, hs, hx, hrun, Result.andThen]
  exact hK v' w' h2

theorem info_entry : (Tryd.prog.info? 73).map (fun i => (i.zero, i.size, i.bytes)) = some (some (.agg #[.string ⟨#[]⟩, .int .i64 0, .int .i64 0]), 3, 32) := by kernel_rfl
theorem cells_three (w : World) (n : Nat) (u1 u2 u3 : Value) (t : TypeId) (hn : n = w.heap.size) : ∀ j u, [u1, u2, u3][j]? = some u → (w.alloc (.cells #[u1, u2, u3] t)).cell? ((⟨n, 0, none⟩ : Addr).add j) = some u := by
  subst hn
  intro j u hu
  have h : j < 3 := by have := (List.getElem?_eq_some_iff.1 hu).1; simpa using this
  have hb := Blk.made w #[u1, u2, u3] t (fun i => [u1, u2, u3].getD i default) 3 rfl (fun i hi => match i, hi with | 0, _ => rfl | 1, _ => rfl | 2, _ => rfl)
  rw [addr0, hb.cell h, List.getD_eq_getElem?_getD, hu]
  rfl

set_option maxHeartbeats 4000000 in
set_option maxRecDepth 100000 in
theorem hadd_walk (h : Has o w0 w (HtP b x T)) (hn : T.nE ≤ 65536) (key : ByteArray) (ref : Int) (c : Nat) :
    Calls Tryd.prog 44 #[.pointer (some ⟨b, 2, none⟩), .agg #[.string key, .int .i64 ref, .int .i64 c]] w fun e w' => e = .returned (.int .u64 ((T.nE : Int) + 1)) ∧ ∃ ev', Has o w0 w' (HtP b { x with ev := ev', C := { x.C with e := fun j => if j = T.nE then c else x.C.e j } } (T.add key ref)) := by
  have h2 := h.alloc (.cells #[.string key, .int .i64 ref, .int .i64 (c : Nat)] 73)
  obtain ⟨_, _, c2⟩ := HtP.fields h2
  obtain ⟨o3, h3⟩ := HtP.ents h2
  have HROW := Lib.hid h3.rowsOwn
  have HXD := Lib.hid (h2.quiet ((Kept.refl [] _).drew))
  obtain ⟨i0, hi0, hz0, hz1, hz2⟩ := info_parts info_entry
  have c2a : ((w.alloc (.cells #[.string key, .int .i64 ref, .int .i64 (c : Nat)] 73)).alloc (.cells #[.string key, .int .i64 ref, .int .i64 (c : Nat)] 73)).cell? ⟨b, 2, none⟩ = some x.ev := ((Kept.refl [] _).alloc _).cell c2 (by simp)
  have h9 : T.nE ≤ 9223372036854775807 := by omega
  clear h h2 h3
  go_enter Tryd.func44, Tryd.ntmps44
  go_wp2_with fail
  have HROW2 := Lib.hid (show (w.alloc (.cells #[.string key, .int .i64 ref, .int .i64 (c : Nat)] 73)).drew.ownsRow 0 73 3 x.ev T.nE (flatN T.nE (entF x.C T)) from HROW.out)
  go_region_law
    (refine step_append_new rfl (.tmp 8) (.tmp 10) 63 rfl 73 i0 (.agg #[.string ⟨#[]⟩, .int .i64 0, .int .i64 0]) 3 32 Tryd.underlying63 hi0 hz0 hz1 hz2 rfl (by decide) x.ev T.nE (flatN T.nE (entF x.C T)) rfl (HROW2.out.alloc _) ⟨_, 0, none⟩ 1 1 [.string key, .int .i64 ref, .int .i64 (c : Nat)] rfl rfl (cells_three _ _ _ _ _ _ (by simp)) (by simp [Value.oneCell']) (by simp only [maxLen]; omega) (by omega) ?_
     intro v' w5 happ
     obtain ⟨y2, z2, hP⟩ := htp_moreEnt _ HXD.out happ
     obtain ⟨gv, vcap, rfl⟩ : ∃ gv vcap, v' = .slice (some ⟨gv, 0, none⟩) (T.nE + 1) vcap := by
       rcases rowN_open happ.row with ⟨_, h0⟩ | ⟨gv, vc, e, _⟩
       · omega
       · exact ⟨gv, vc, e⟩
     obtain ⟨_, _, u2⟩ := HtP.fields hP
     have HP := Lib.hid hP
     clear happ hP)
  all_goals (
    go_wp2_with fail
    go_ret
    exact ⟨rfl, _, HP.out⟩)
end Go.Proofs.YtmldighidbfhhaaDoor
