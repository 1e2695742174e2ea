/- One node more, in memory. -/
import Derived.Test.YtpckpgdkfimapaaDoorSkipQuiet
namespace Go.Proofs.YtpckpgdkfimapaaDoor
open Go Go.RowKit
set_option linter.unusedVariables false

theorem imp_swap3 (A B C : Part) : ((A.sep B).sep C).Imp ((A.sep C).sep B) := by
  rintro w fp ⟨f, c, ⟨a, b, hA, hB, hd1, rfl⟩, hC, hd2, rfl⟩
  refine ⟨(a ++ c) ++ b, ⟨a ++ c, b, ⟨a, c, hA, hC, fun x hx => hd2 x (by simp [hx]), rfl⟩, hB, fun x hx hb => ?_, rfl⟩, fun x hx => ?_⟩
  · rcases List.mem_append.1 hx with h | h
    · exact hd1 x h hb
    · exact hd2 x (by simp [hb]) h
  · simp only [List.mem_append] at hx ⊢
    rcases hx with (h | h) | h
    · exact .inl (.inl h)
    · exact .inr h
    · exact .inl (.inr h)
theorem imp_snoc (n : Nat) (f : Nat → Part) (B : Part) : ((Part.all n f).sep B).Imp (.all (n + 1) fun j => if j = n then B else f j) := by
  rintro w fp ⟨a, c, ⟨F, hF, hd, hm⟩, hB, hd2, rfl⟩
  have hF' : ∀ i, i < n → ∀ x ∈ F i, x ∈ a := fun i hi x hx => (hm x).2 ⟨i, hi, hx⟩
  refine ⟨a ++ c, ⟨fun j => if j = n then c else F j, fun i hi => ?_, fun i j hi hj hne x hx hx' => ?_, fun x => ?_⟩, fun x hx => hx⟩
  · by_cases e : i = n
    · simp only [if_pos e]; exact hB
    · simp only [if_neg e]; exact hF i (by omega)
  · by_cases e : i = n
    · have e2 : j ≠ n := by omega
      simp only [if_pos e] at hx
      simp only [if_neg e2] at hx'
      exact hd2 x (hF' j (by omega) x hx') hx
    · simp only [if_neg e] at hx
      by_cases e2 : j = n
      · simp only [if_pos e2] at hx'
        exact hd2 x (hF' i (by omega) x hx) hx'
      · simp only [if_neg e2] at hx'
        exact hd i j (by omega) (by omega) hne x hx hx'
  · constructor
    · intro hx
      rcases List.mem_append.1 hx with h | h
      · obtain ⟨i, hi, hx⟩ := (hm x).1 h
        exact ⟨i, by omega, by simp only [if_neg (show i ≠ n by omega)]; exact hx⟩
      · exact ⟨n, by omega, by simp only [if_pos]; exact h⟩
    · rintro ⟨i, hi, hx⟩
      by_cases e : i = n
      · simp only [if_pos e] at hx
        simp [hx]
      · simp only [if_neg e] at hx
        exact List.mem_append.2 (.inl (hF' i (by omega) x hx))
theorem imp_inner (A R B N : Part) : ((A.sep (R.sep B)).sep N).Imp (A.sep (R.sep (B.sep N))) := by
  rintro w fp ⟨f, c, ⟨a, rb, hA, ⟨r, b, hR, hB, hd0, rfl⟩, hd1, rfl⟩, hN, hd2, rfl⟩
  refine ⟨a ++ (r ++ (b ++ c)), ⟨a, r ++ (b ++ c), hA, ⟨r, b ++ c, hR, ⟨b, c, hB, hN, fun x hx => hd2 x (by simp [hx]), rfl⟩, fun x hx hx' => ?_, rfl⟩, fun x hx hx' => ?_, rfl⟩, fun x hx => ?_⟩
  · rcases List.mem_append.1 hx' with h | h
    · exact hd0 x hx h
    · exact hd2 x (by simp [hx]) h
  · rcases List.mem_append.1 hx' with h | h
    · exact hd1 x hx (by simp [h])
    · rcases List.mem_append.1 h with h | h
      · exact hd1 x hx (by simp [h])
      · exact hd2 x (by simp [hx]) h
  · simpa [List.append_assoc] using hx

variable {o : List Nat} {w0 w : World} {b : Nat} {x : SkIx} {T : ASk} {ob : Nat} {q : ASop}

/-- The list's index with one node more. -/
def SkIx.more (x : SkIx) (n : Nat) (v : Value) (nb : Nat) (c : Nat → Nat) : SkIx := ⟨v, x.S, fun i => if i = n then c else x.C i, fun i => if i = n then nb else x.nb i⟩

theorem sk_more {w5 : World} {v' : Value} {nb : Nat} {key wd : ByteArray} {ref : Int} {h9 : Nat} {c : Nat → Nat} (oj : Obj)
    (h : Has o w0 w ((SkP b x T).sep (.node nb ⟨key, wd, ref, h9, fun _ => 0, false⟩ c)))
    (happ : Appended (w.alloc oj) w5 77 1 x.nv v' (T.nN + 1) (flatN T.nN (ptrF x.nb) ++ [.pointer (some ⟨nb, 0, none⟩)])) :
    (∃ I, Has o w0 w5 I) ∧ w5.cell? ⟨b, 1, none⟩ = some x.nv ∧ w5.frozen? ⟨b, 1, none⟩ = false ∧ Has o w0 (w5.setCell ⟨b, 1, none⟩ v') (SkP b (x.more T.nN v' nb c) (T.add key wd ref h9)) := by
  have h1 := Has.weaken h (imp_inner _ _ _ _)
  have h2 := Has.weaken h1 (Part.Imp.sep (Part.Imp.refl _) (Part.Imp.sep (Part.Imp.refl _) (imp_snoc _ _ _)))
  obtain ⟨o2, h3, _, _, b2⟩ := h2.right
  obtain ⟨o3, h4, _, _, b3⟩ := h3.left
  have h5 := b2 _ _ (b3 _ _ (Has.rowsMore oj h4 happ))
  obtain ⟨o6, h6, _, _, b6⟩ := h5.left
  obtain ⟨o7, h7, _, _, b7⟩ := h6.left
  obtain ⟨c1, z, hput⟩ := h7.blkAt (i := 1) (by omega)
  refine ⟨⟨_, h5⟩, c1, z, ?_⟩
  have h8 := b6 _ _ (b7 _ _ (blkc (g := skF T.ab v') (hput v') fun i hi => by
    unfold upd skF
    rcases (by omega : i = 0 ∨ i = 1) with rfl | rfl <;> rfl))
  have e2 : (fun d => if d = T.nN then [Value.pointer (some ⟨nb, 0, none⟩)] else ptrF x.nb d) = ptrF (x.more T.nN v' nb c).nb := funext fun d => by
    unfold ptrF SkIx.more
    by_cases e : d = T.nN <;> simp [e]
  have e3 : (fun j => if j = T.nN then Part.node nb ⟨key, wd, ref, h9, fun _ => 0, false⟩ c else Part.node (x.nb j) (T.E j) (x.C j)) = fun i => Part.node ((x.more T.nN v' nb c).nb i) ((T.add key wd ref h9).E i) ((x.more T.nN v' nb c).C i) := funext fun j => by
    unfold SkIx.more ASk.add
    by_cases e : j = T.nN
    · simp only [if_pos e]
    · simp only [if_neg e]
  rw [e2, e3] at h8
  exact h8

/-- The same beside an operation. -/
theorem so_more {w5 : World} {v' : Value} {nb : Nat} {key wd : ByteArray} {ref : Int} {h9 : Nat} {c : Nat → Nat} (oj : Obj)
    (h : Has o w0 w ((SkOp b x T ob q).sep (.node nb ⟨key, wd, ref, h9, fun _ => 0, false⟩ c)))
    (happ : Appended (w.alloc oj) w5 77 1 x.nv v' (T.nN + 1) (flatN T.nN (ptrF x.nb) ++ [.pointer (some ⟨nb, 0, none⟩)])) :
    (∀ k, k < 47 → w5.cell? ⟨ob, k, none⟩ = some (sopF (some ⟨b, 0, none⟩) q k)) ∧ w5.cell? ⟨b, 1, none⟩ = some x.nv ∧ w5.frozen? ⟨b, 1, none⟩ = false ∧ Has o w0 (w5.setCell ⟨b, 1, none⟩ v') (SkOp b (x.more T.nN v' nb c) (T.add key wd ref h9) ob q) := by
  have h1 := Has.weaken h (imp_swap3 _ _ _)
  obtain ⟨o1, h2, _, _, b1⟩ := h1.left
  obtain ⟨⟨I, hI⟩, c1, z, h3⟩ := sk_more oj h2 happ
  obtain ⟨o9, h9', _⟩ := (b1 _ _ hI).right
  exact ⟨fun k hk => sop_cell h9' k hk, c1, z, b1 _ _ h3⟩

/-- An append to a row of one's own, as one step of a region that draws its order. -/
theorem step_append_new {P : Program} {ops : Array Oper} {o : Oper} {a : Act} {w : World} {K : Act → World → Prop} {Q : Exit → Act → World → Prop} {E : Prop}
    (hg : o.guard = none) (s x : Operand) (t : TypeId) (hop : o.op = Op.call { callee := Callee.builtin Builtin.append, args := #[s, x], argTypes := #[t, t] })
    (e : TypeId) (i : TypeInfo) (z : Value) (size bytes : Nat) (ht : P.underlying t = some (.slice e)) (hi : P.info? e = some i) (hz : i.zero = some z)
    (hsize : i.size = size) (hby : i.bytes = bytes) (hzs : z.cells.size = size) (hsz : 0 < size)
    (v : Value) (n : Nat) (xs : List Value) (hs : a.eval s = v) (hown : w.ownsRow 0 e size v n xs)
    (ad : Addr) (m c : Nat) (news : List Value) (hx : a.eval x = .slice (some ad) m c) (hl : news.length = m * size) (hnews : ∀ j u, news[j]? = some u → w.cell? (ad.add j) = some u) (h1 : ∀ u ∈ news, u.oneCell' = true)
    (h63 : n + m ≤ maxLen) (hbytes : (n + m) * bytes ≤ 140737488355328)
    (hK : ∀ v' w', Appended w w' e size v v' (n + m) (xs ++ news) → K (a.put o.dst v') w') :
    if Region.wanted o (yielded ops a.tmps) = true then Oper.wp P o a w K Q else E := by
  have hw : Region.wanted o (yielded ops a.tmps) = true := by simp [Region.wanted, hg]
  rw [if_pos hw]
  obtain ⟨v', w', hrun, h2⟩ := run_append_new (P := P) w t o.type e i z size bytes ht hi hz hsize hby hzs hsz v n xs hown ad m c news hl hnews h1 h63 hbytes
  unfold Oper.wp
  simp [execOp, hop, resolve, invoke, builtin, hs, hx, hrun, Result.andThen]
  exact hK v' w' h2

/-- A whole row read, as one step of a region that draws its order. -/
theorem step_load_mid {P : Program} {ops : Array Oper} {o : Oper} {a : Act} {w : World} {K : Act → World → Prop} {Q : Exit → Act → World → Prop} {E : Prop}
    (hg : o.guard = none) (ty : TypeId) (y : Operand) (hop : o.op = .load ty y) (b k : Nat) (hx : a.eval y = .pointer (some ⟨b, k, none⟩)) (cs : List Value) (d : TypeDesc) (hc : w.rangeAt b k cs)
    (hu : P.underlying ty = some d) (hd : d.isRow = true) (hi : (P.info? ty).map (·.size) = some cs.length) (hK : K (a.put o.dst (.agg cs.toArray)) w) :
    if Region.wanted o (yielded ops a.tmps) = true then Oper.wp P o a w K Q else E := by
  have hw : Region.wanted o (yielded ops a.tmps) = true := by simp [Region.wanted, hg]
  rw [if_pos hw]
  exact wp_load_mid ty y hop b k hx cs d hc hu hd hi hK

theorem info_ptr : (Tryd.prog.info? 77).map (fun i => (i.zero, i.size, i.bytes)) = some (some (.pointer none), 1, 8) := by kernel_rfl
theorem cells_one (w : World) (n : Nat) (u1 : Value) (t : TypeId) (hn : n = w.heap.size) : ∀ j u, [u1][j]? = some u → (w.alloc (.cells #[u1] t)).cell? ((⟨n, 0, none⟩ : Addr).add j) = some u := by
  subst hn
  intro j u hu
  have h : j < 1 := by have := (List.getElem?_eq_some_iff.1 hu).1; simpa using this
  have hb := Blk.made w #[u1] t (fun i => [u1].getD i default) 1 rfl (fun i hi => match i, hi with | 0, _ => rfl)
  rw [addr0, hb.cell h, List.getD_eq_getElem?_getD, hu]
  rfl
/-- A new node's block. -/
theorem Has.madeNode (w : World) (n : ANd) (cs : Array Value) (hs : cs.size = 28) (hc : ∀ i, i < 28 → cs[i]? = some (ndAt n (fun _ => 0) i)) : Has [] w (w.alloc (.cells cs 76)) (.node w.heap.size n fun _ => 0) := Has.madeBlk _ _ _ 28 hs hc
end Go.Proofs.YtpckpgdkfimapaaDoor
