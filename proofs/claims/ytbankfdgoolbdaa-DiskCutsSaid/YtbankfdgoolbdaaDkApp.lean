/- Append walked. -/
import Derived.Test.YtbankfdgoolbdaaDkRead
import Derived.Deep.Upon
namespace Go.Proofs.Ytbankfdgoolbdaa
open Go Go.RowKit Go.Lib
set_option linter.unusedVariables false
variable {o : List Nat} {w0 w w' w1 w3 w4 w5 : World} {db : Nat} {a : ADk} {L : DLay}

/-- A slice of bytes anywhere, of which nothing but its cells is asked. -/
structure BytesX (w : World) (v : Value) (b : List UInt8) : Prop where
  out : ∃ p c, v = .slice p b.length c ∧ (p = none → b.length = 0 ∧ c = 0) ∧ ∀ x, p = some x → ∀ j u, (bytesV b)[j]? = some u → w.cell? (x.add j) = some u

theorem BytesAt.x {v : Value} {b : List UInt8} (h : BytesAt w v b) : BytesX w v b := by
  obtain ⟨p, c, rfl, h2, h3, h4⟩ := h.out
  exact ⟨p, c, rfl, h3, fun x hx => (h4 x hx).2⟩

theorem append_nothing (w : World) (p : Option Addr) (n c : Nat) (h : n ≤ c) : (Builtin.append_ #[27, 27] 27 #[.slice p n c, .slice none 0 0]).run Try.prog w = .ok (.slice p n c) w := by
  obtain ⟨i0, hi, he⟩ := Option.map_eq_some_iff.1 info_u8
  exact run_append_nothing w _ _ _ 5 i0 Try.underlying27 hi p n c h _ (Src.ofNil w Try.underlying27 0)

/-- Bytes appended to a row of the call's own. -/
theorem run_append_bytes (w : World) (v x : Value) (xs ys : List UInt8) (hown : w.ownsRow 0 5 1 v xs.length (bytesV xs)) (hx : BytesX w x ys) (hb : xs.length + ys.length ≤ 262144) :
    ∃ v' w', (∀ ty, (Builtin.append_ #[27, 27] ty #[v, x]).run Try.prog w = .ok v' w') ∧ Appended w w' 5 1 v v' (xs ++ ys).length (bytesV (xs ++ ys)) := by
  obtain ⟨p, c, rfl, hn, hc⟩ := hx.out
  obtain ⟨i0, hi, he⟩ := Option.map_eq_some_iff.1 info_u8
  obtain ⟨hz0, hz1, hz2⟩ : i0.zero = some (.int .u8 0) ∧ i0.size = 1 ∧ i0.bytes = 1 := by simpa using he
  cases p with
  | none =>
    obtain ⟨h0, rfl⟩ := hn rfl
    obtain rfl : ys = [] := List.eq_nil_of_length_eq_zero h0
    obtain ⟨q, n, c, rfl, hnc⟩ : ∃ q n c, v = .slice q n c ∧ n ≤ c := by
      rcases row_val hown with ⟨rfl, _⟩ | ⟨g, cap, rfl, h1, _⟩
      · exact ⟨_, _, _, rfl, Nat.le_refl _⟩
      · exact ⟨_, _, _, rfl, h1⟩
    refine ⟨_, _, fun _ => append_nothing w q n c hnc, ?_, ⟨rfl, rfl, rfl, Nat.le_refl _, fun _ _ _ => rfl⟩, .inl rfl⟩
    rw [List.append_nil]; exact hown
  | some ad =>
    have hc := hc ad rfl
    have hmx : (262144 : Nat) ≤ maxLen := by decide
    obtain ⟨v', w', hr, ha⟩ := run_append_new (P := Try.prog) w 27 27 5 i0 (.int .u8 0) 1 1 Try.underlying27 hi hz0 hz1 hz2 rfl (by decide) v xs.length (bytesV xs) hown ad ys.length c (bytesV ys) (by simp [bytesV_length]) hc (fun u hu => by
      unfold bytesV at hu
      obtain ⟨c, _, rfl⟩ := List.mem_map.1 hu
      rfl) (by omega) (by omega)
    refine ⟨v', w', fun _ => hr, ?_⟩
    rw [bytesV_append, List.length_append]
    exact ha

theorem step_append_run {P : Program} {ops : Array Oper} {op : Oper} {ac : Act} {W : World} {K : Act → World → Prop} {Q : Exit → Act → World → Prop} {E : Prop}
    (hg : op.guard = none) (s x : Operand) (t : TypeId) (hop : op.op = Op.call { callee := Callee.builtin Builtin.append, args := #[s, x], argTypes := #[t, t] }) (v xv : Value) (hs : ac.eval s = v) (hx : ac.eval x = xv)
    {v' : Value} {w' : World} (hrun : ∀ ty, (Builtin.append_ #[t, t] ty #[v, xv]).run P W = .ok v' w') (hK : K (ac.put op.dst v') w') :
    if Region.wanted op (yielded ops ac.tmps) = true then Oper.wp P op ac W K Q else E := by
  have hw : Region.wanted op (yielded ops ac.tmps) = true := by simp [Region.wanted, hg]
  rw [if_pos hw]
  unfold Oper.wp
  simp [execOp, hop, resolve, invoke, builtin, hs, hx, hrun, Result.andThen]
  exact hK

theorem Has.appendRow0 {e : TypeId} {v v' : Value} {len n : Nat} {xs ys : List Value} (h : Has o w0 w (.row e 1 v len xs)) (happ : Appended w w5 e 1 v v' n ys) : Has o w0 w5 (.row e 1 v' n ys) := by
  obtain ⟨fp, ⟨hr, rfl⟩, hn, k⟩ := h
  have k1 : Kept (rowsOf v) w w5 := (Kept.refl _ w).grown happ.grown fun b _ e => by simp [mem_rowsOf, e]
  refine Has.step hn k ⟨rowsOf v', ⟨happ.row, rfl⟩, ?_, k1⟩
  intro x hx
  rw [mem_rowsOf] at hx ⊢
  rcases happ.place with e | e
  · rw [e] at hx; exact .inl hx
  · rw [e] at hx
    simp only [Option.some.injEq] at hx
    right; omega

theorem rowSlice {e : TypeId} {v : Value} {n : Nat} {xs : List Value} (h : w.ownsRow 0 e 1 v n xs) : ∃ p c, v = .slice p n c := by
  rcases row_val h with ⟨rfl, h0⟩ | ⟨g, cap, rfl, _⟩
  · exact ⟨_, _, by rw [h0]⟩
  · exact ⟨_, _, rfl⟩

/-- A file's bytes are appended to. -/
theorem file_app {ad : Nat} {v v' : Value} {x : AFile} {ys : List UInt8} (h : Has o w0 w (fileP ad v x)) (happ : Appended w w5 5 1 v v' (x.b ++ ys).length (bytesV (x.b ++ ys))) :
    (w5.cell? ⟨ad, 0, none⟩ = some v ∧ w5.frozen? ⟨ad, 0, none⟩ = false) ∧ Has o w0 (w5.setCell ⟨ad, 0, none⟩ v') (fileP ad v' ⟨x.b ++ ys, x.sy⟩) := by
  obtain ⟨o1, h1, _, _, b1⟩ := h.right
  have h2 := b1 _ _ (Has.appendRow0 h1 happ)
  obtain ⟨o3, h3, _, _, b3⟩ := h2.left
  obtain ⟨c0, f0, st⟩ := h3.blkAt (i := 0) (by omega)
  refine ⟨⟨c0, f0⟩, ?_⟩
  have h4 := b3 _ _ (st v')
  have e : upd (fileCells v x.sy) 0 v' = fileCells v' x.sy := by
    funext i
    unfold upd
    match i with
    | 0 => rfl
    | 1 => rfl
    | i + 2 => rfl
  rw [e] at h4
  exact h4

theorem dirV_congr {ad ad' : Nat → Nat} {l : Dir} (h : ∀ p ∈ l, ad p.2 = ad' p.2) : dirV ad l = dirV ad' l := alMap_congr fun p hp => by
  show ptr (ad p.2) = ptr (ad' p.2)
  rw [h p hp]

/-- One file more, under no name yet. -/
theorem dkl_grow (h : Has o w0 w (DkL db a L)) (hok : a.Ok) {nb : Nat} {v : Value} {x : AFile} (hB : Has [] w w' (fileP nb v x)) :
    Has o w0 w' (DkL db { a with fs := a.fs ++ [x] } { L with addr := fun j => if j = a.fs.length then nb else L.addr j, bv := fun j => if j = a.fs.length then v else L.bv j }) := by
  have e1 : ∀ l : Dir, (∀ p ∈ l, p.2 < a.fs.length) → dirV (fun j => if j = a.fs.length then nb else L.addr j) l = dirV L.addr l := fun l hl => dirV_congr fun p hp => by
    have := hl p hp
    simp [show p.2 ≠ a.fs.length by omega]
  have h1 := dk_filed (g := fun i => fileP (if i = a.fs.length then nb else L.addr i) (if i = a.fs.length then v else L.bv i) (({ a with fs := a.fs ++ [x] } : ADk).file i)) h hB (by
    intro j hj
    unfold ADk.file
    by_cases e : j = a.fs.length
    · subst e; simp
    · simp only [if_neg e]
      rw [List.getD_eq_getElem?_getD, List.getD_eq_getElem?_getD, List.getElem?_append_left (by omega)])
  obtain ⟨o2, h2, b2⟩ := h1.dkBoxes
  have h3 := b2 _ a.log.length (fun j => boxP (fun j => if j = a.fs.length then nb else L.addr j) (L.b1 j) (L.b2 j) (a.log.getD j (.del []))) (h2.congr fun j hj => by
    cases hc : a.log.getD j (.del []) with
    | mk s i =>
      have hm : Chg.mk s i ∈ a.log := by
        rw [List.getD_eq_getElem?_getD] at hc
        have hj' := List.getElem?_eq_getElem hj
        rw [hj'] at hc
        simp only [Option.getD_some] at hc
        rw [← hc]; exact List.getElem_mem hj
      have := hok.logids s i hm
      unfold boxP
      simp only
      rw [if_neg (show i ≠ a.fs.length by omega)]
    | del s => rfl
    | ren s t => rfl)
  unfold DkL
  simp only
  rw [e1 a.now hok.now.ids, e1 a.old hok.ids, List.length_append]
  exact h3

theorem imp_comm (A B : Part) : (A.sep B).Imp (B.sep A) := by
  rintro w fp ⟨f, g, hA, hB, hd, rfl⟩
  exact ⟨g ++ f, ⟨g, f, hB, hA, fun x hx hx' => hd x hx' hx, rfl⟩, fun x hx => by simp at hx ⊢; exact hx.symm⟩

/-- A new file, its two boxes beside. -/
theorem app_new {s : Nm} {b1 b2 : Nat} {f : Nat → Value} (h1 : Has o w w4 (((DkL db a L).sep (.blk b2 1 9 (fun _ => nmV s))).sep (.blk b1 1 69 f))) (hok : a.Ok) :
    Has o w ((w4.alloc (.cells #[.slice none 0 0, .int .i64 0] 71)).setCell ⟨b1, 0, none⟩ (ptr w4.heap.size))
      ((DkL db { a with fs := a.fs ++ [⟨[], 0⟩] } { L with addr := fun j => if j = a.fs.length then w4.heap.size else L.addr j, bv := fun j => if j = a.fs.length then .slice none 0 0 else L.bv j }).sep
        (boxP (fun j => if j = a.fs.length then w4.heap.size else L.addr j) b1 b2 (.mk s a.fs.length))) := by
  have h2 := h1.weaken ((imp_assoc _ _ _).trans (Part.Imp.sep (Part.Imp.refl _) (imp_comm _ _)))
  obtain ⟨o', h3, _, _, back⟩ := h2.left
  have hfile : Has [] w4 (w4.alloc (.cells #[.slice none 0 0, .int .i64 0] 71)) (fileP w4.heap.size (.slice none 0 0) ⟨[], 0⟩) := by
    have hb := Has.madeBlk (w := w4) #[.slice none 0 0, .int .i64 0] 71 (fileCells (.slice none 0 0) 0) 2 rfl (by
      intro i hi
      match i with
      | 0 | 1 => rfl
      | i + 2 => omega)
    exact hb.beside (row_none _)
  have h4 := back _ _ (dkl_grow h3 hok hfile)
  obtain ⟨o5, h5, _, _, b5⟩ := h4.right
  obtain ⟨o6, h6, _, _, b6⟩ := h5.left
  have h7 := b5 _ _ (b6 _ _ ((h6.blkAt (i := 0) (by omega)).2.2 (ptr w4.heap.size)))
  have e : boxP (fun j => if j = a.fs.length then w4.heap.size else L.addr j) b1 b2 (.mk s a.fs.length) = (Part.blk b1 1 69 (upd f 0 (ptr w4.heap.size))).sep (.blk b2 1 9 (fun _ => nmV s)) := by
    unfold boxP
    simp only [if_true]
    congr 1
    unfold Part.blk
    congr 1
    funext w fp
    have e0 : ∀ g : Nat → Value, Blk w b1 1 69 g ↔ Blk w b1 1 69 (fun _ => g 0) := fun g =>
      ⟨fun h => h.congr fun i hi => by rw [show i = 0 by omega], fun h => h.congr fun i hi => by rw [show i = 0 by omega]⟩
    rw [e0 (upd f 0 (ptr w4.heap.size))]
    simp [upd]
  rw [e]
  exact h7

/-- Bytes are appended to a file's row. -/
theorem dkl_app (h : Has o w0 w (DkL db a L)) {i : Nat} (hi : i < a.fs.length) {v' : Value} {ys : List UInt8} (happ : Appended w w5 5 1 (L.bv i) v' ((a.file i).b ++ ys).length (bytesV ((a.file i).b ++ ys))) :
    Kept o w0 w5 ∧ w5.cell? ⟨L.addr i, 0, none⟩ = some (L.bv i) ∧ w5.frozen? ⟨L.addr i, 0, none⟩ = false ∧
      Has o w0 (w5.setCell ⟨L.addr i, 0, none⟩ v') (DkL db { a with fs := a.fs.set i ⟨(a.file i).b ++ ys, (a.file i).sy⟩ } { L with bv := fun j => if j = i then v' else L.bv j }) := by
  obtain ⟨o', hF, back⟩ := dkl_file h hi
  obtain ⟨⟨c0, f0⟩, hst⟩ := file_app hF happ
  obtain ⟨o2, h2, b2⟩ := h.dkFile hi
  obtain ⟨o3, h3, _, _, b3⟩ := h2.right
  have hk := b2 _ _ (b3 _ _ (Has.appendRow0 h3 happ))
  exact ⟨hk.keeps, c0, f0, back _ _ _ hst⟩

end Go.Proofs.Ytbankfdgoolbdaa
