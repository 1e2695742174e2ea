/- A list and many operations in memory. Plain lemmas, and the walk of a step of one of them. -/
import Derived.Test.YtpckpgdkfimapaaDoorSkipTogM
import Derived.Test.YtpckpgdkfimapaaDoorSepMore
namespace Go.Proofs.YtpckpgdkfimapaaDoor
open Go Go.RowKit
set_option linter.unusedVariables false

variable {o : List Nat} {w0 w w' : World} {A B R : Part} {n : Nat} {f : Nat → Part}

/-- One of many, and the rest of them. -/
theorem Has.split (h : Has o w0 w (A.sep (.all n f))) {i : Nat} (hi : i < n) : Has o w0 w ((A.sep (f i)).sep (.all n (updP f i .emp))) := by
  obtain ⟨fp, ⟨fa, fg, hA, ⟨F, hF, hd, hm⟩, hda, rfl⟩, hn, k⟩ := h
  let F' : Nat → List Nat := fun j => if j = i then [] else F j
  have hcl : ∀ j, j ≠ i → updP f i .emp j = f j := fun j hj => by unfold updP; rw [if_neg hj]
  have hci : updP f i .emp i = .emp := by unfold updP; rw [if_pos rfl]
  obtain ⟨rest, hrest⟩ : ∃ rest : List Nat, ∀ x, x ∈ rest ↔ ∃ j, j < n ∧ x ∈ F' j := by
    refine ⟨(List.range n).flatMap F', fun x => ?_⟩
    simp only [List.mem_flatMap, List.mem_range]
  refine ⟨(fa ++ F i) ++ rest, ⟨fa ++ F i, rest, ⟨fa, F i, hA, hF i hi, fun x hx hx' => hda x hx ((hm x).2 ⟨i, hi, hx'⟩), rfl⟩, ⟨F', fun j hj => ?_, fun j l hj hl hjl x hx => ?_, hrest⟩, fun x hx hx' => ?_, rfl⟩, fun x hx => ?_, k⟩
  · by_cases e : j = i
    · subst e; rw [hci]; show F' j = []; simp [F']
    · rw [hcl j e]; show (f j).at_ w (if j = i then [] else F j); rw [if_neg e]; exact hF j hj
  · intro hx'
    by_cases e : j = i
    · simp [F', e] at hx
    · by_cases e2 : l = i
      · simp [F', e2] at hx'
      · simp only [F', if_neg e] at hx
        simp only [F', if_neg e2] at hx'
        exact hd j l hj hl hjl x hx hx'
  · obtain ⟨j, hj, hxj⟩ := (hrest x).1 hx'
    by_cases e : j = i
    · simp [F', e] at hxj
    · simp only [F', if_neg e] at hxj
      rcases List.mem_append.1 hx with h1 | h1
      · exact hda x h1 ((hm x).2 ⟨j, hj, hxj⟩)
      · exact hd i j hi hj (fun e' => e e'.symm) x h1 hxj
  · rcases List.mem_append.1 hx with h1 | h1
    · rcases List.mem_append.1 h1 with h2 | h2
      · exact hn x (by simp [h2])
      · exact hn x (List.mem_append_right _ ((hm x).2 ⟨i, hi, h2⟩))
    · obtain ⟨j, hj, hxj⟩ := (hrest x).1 h1
      by_cases e : j = i
      · simp [F', e] at hxj
      · simp only [F', if_neg e] at hxj
        exact hn x (List.mem_append_right _ ((hm x).2 ⟨j, hj, hxj⟩))
theorem Has.unsplit {i : Nat} (hi : i < n) (h : Has o w0 w ((A.sep B).sep (.all n (updP f i .emp)))) : Has o w0 w (A.sep (.all n (updP f i B))) := by
  obtain ⟨fp, ⟨fab, fr, ⟨fa, fb, hA, hB, hab, rfl⟩, ⟨F, hF, hd, hm⟩, hdr, rfl⟩, hn, k⟩ := h
  let F' : Nat → List Nat := fun j => if j = i then fb else F j
  have hFi : F i = [] := by have := hF i hi; unfold updP at this; rw [if_pos rfl] at this; exact this
  obtain ⟨rest, hrest⟩ : ∃ rest : List Nat, ∀ x, x ∈ rest ↔ ∃ j, j < n ∧ x ∈ F' j := by
    refine ⟨(List.range n).flatMap F', fun x => ?_⟩
    simp only [List.mem_flatMap, List.mem_range]
  have key : ∀ x, x ∈ rest → x ∈ fb ∨ x ∈ fr := fun x hx => by
    obtain ⟨j, hj, hxj⟩ := (hrest x).1 hx
    by_cases e : j = i
    · simp only [F', if_pos e] at hxj; exact .inl hxj
    · simp only [F', if_neg e] at hxj; exact .inr ((hm x).2 ⟨j, hj, hxj⟩)
  refine ⟨fa ++ rest, ⟨fa, rest, hA, ⟨F', fun j hj => ?_, fun j l hj hl hjl x hx => ?_, hrest⟩, fun x hx hx' => ?_, rfl⟩, fun x hx => ?_, k⟩
  · unfold updP
    by_cases e : j = i
    · rw [if_pos e]; show B.at_ w (if j = i then fb else F j); rw [if_pos e]; exact hB
    · rw [if_neg e]; show (f j).at_ w (if j = i then fb else F j); rw [if_neg e]; have := hF j hj; unfold updP at this; rw [if_neg e] at this; exact this
  · intro hx'
    by_cases e : j = i
    · by_cases e2 : l = i
      · exact hjl (e.trans e2.symm)
      · simp only [F', if_pos e] at hx
        simp only [F', if_neg e2] at hx'
        exact hdr x (by simp [hx]) ((hm x).2 ⟨l, hl, hx'⟩)
    · simp only [F', if_neg e] at hx
      by_cases e2 : l = i
      · simp only [F', if_pos e2] at hx'
        exact hdr x (by simp [hx']) ((hm x).2 ⟨j, hj, hx⟩)
      · simp only [F', if_neg e2] at hx'
        exact hd j l hj hl hjl x hx hx'
  · rcases key x hx' with h1 | h1
    · exact hab x hx h1
    · exact hdr x (by simp [hx]) h1
  · rcases List.mem_append.1 hx with h1 | h1
    · exact hn x (by simp [h1])
    · rcases key x h1 with h2 | h2
      · exact hn x (by simp [h2])
      · exact hn x (by simp [h2])

variable {b m : Nat} {T T' : ASk} {obs : Nat → Nat} {qs : Nat → ASop}

/-- A list and its operations. -/
noncomputable def Part.many (b : Nat) (T : ASk) (n : Nat) (obs : Nat → Nat) (qs : Nat → ASop) : Part := (Part.skl b T).sep (.all n fun j => .sop (obs j) (some ⟨b, 0, none⟩) (qs j))

theorem op_open {ob : Nat} {q : ASop} (h : Has o w0 w ((Part.skl b T).sep (.sop ob (some ⟨b, 0, none⟩) q))) : ∃ x : SkIx, SkRep x.S x.C T ∧ Has o w0 w (SkOp b x T ob q) := by
  obtain ⟨fp, ⟨f, g, ⟨x, hr, hP⟩, hQ, hd, rfl⟩, hn, k⟩ := h
  exact ⟨x, hr, f ++ g, ⟨f, g, hP, hQ, hd, rfl⟩, hn, k⟩
theorem op_shut {ob : Nat} {q : ASop} {x : SkIx} (hr : SkRep x.S x.C T) (h : Has o w0 w (SkOp b x T ob q)) : Has o w0 w ((Part.skl b T).sep (.sop ob (some ⟨b, 0, none⟩) q)) := by
  obtain ⟨fp, ⟨f, g, hP, hQ, hd, rfl⟩, hn, k⟩ := h
  exact ⟨f ++ g, ⟨f, g, ⟨x, hr, hP⟩, hQ, hd, rfl⟩, hn, k⟩

/-- A list and one of its operations, out of all. -/
theorem many_one (h : Has o w0 w (.many b T n obs qs)) {i : Nat} (hi : i < n) : ∃ o' x, SkRep x.S x.C T ∧ Has o' w w (SkOp b x T (obs i) (qs i)) ∧ (∀ y ∈ o', y ∈ o ∨ w0.heap.size ≤ y) ∧
    ∀ w' x' T' q', SkRep x'.S x'.C T' → Has o' w w' (SkOp b x' T' (obs i) q') → Has o w0 w' (.many b T' n obs (updA qs i q')) := by
  have h1 := Has.split h hi
  obtain ⟨o1, h2, p1, _, b1⟩ := h1.left
  obtain ⟨x, hr, h3⟩ := op_open h2
  refine ⟨o1, x, hr, h3, p1, fun w' x' T' q' hr' h' => ?_⟩
  have h5 := Has.unsplit hi (b1 _ _ (op_shut hr' h'))
  refine h5.weaken (Part.Imp.sep (Part.Imp.refl _) (Part.Imp.all fun j hj => ?_))
  unfold updP updA
  by_cases e : j = i
  · rw [if_pos e, if_pos e, e]; exact Part.Imp.refl _
  · rw [if_neg e, if_neg e]; exact Part.Imp.refl _

/-- A step of one of them. -/
theorem many_step (h : Has o w0 w (.many b T n obs qs)) {i : Nat} (hi : i < n) (hT : TabAt w0) (ho : 0 ∉ o) (hok : SkOk T (qs i)) :
    Calls Tryd.prog 21 #[.pointer (some ⟨obs i, 0, none⟩)] w fun e w' => e = .returned (.bool (stepS T (qs i)).2.2) ∧ Has o w0 w' (.many b (stepS T (qs i)).1 n obs (updA qs i (stepS T (qs i)).2.1)) := by
  obtain ⟨o', x, hr, h1, p1, bk⟩ := many_one h hi
  refine (step_all h1 hr hok (hT.kept h.keeps ho) (tab_out hT ho p1)).mono ?_
  rintro e w' ⟨rfl, x', hr', h'⟩
  exact ⟨rfl, bk _ _ _ _ hr' h'⟩
/-- What one that is over says. -/
theorem many_ref (h : Has o w0 w (.many b T n obs qs)) {i : Nat} (hi : i < n) (h4 : (qs i).does = 3) :
    Calls Tryd.prog 10 #[.pointer (some ⟨obs i, 0, none⟩)] w fun e w' => e = .returned (.tuple #[.string (qs i).found, .int .i64 (qs i).ref, .bool (qs i).had, .int .i64 (qs i).code]) ∧ Kept [] w w' := by
  obtain ⟨o', x, hr, h1, p1, bk⟩ := many_one h hi
  obtain ⟨_, h2, _⟩ := so_op h1
  exact ref_walk h2 h4
/-- One more operation. -/
theorem many_more (h : Has o w0 w (.many b T n obs qs)) {ob : Nat} {q : ASop} (hq : Has [] w w' (.sop ob (some ⟨b, 0, none⟩) q)) : Has o w0 w' (.many b T (n + 1) (fun j => if j = n then ob else obs j) (updA qs n q)) := by
  obtain ⟨o1, h1, _, _, b1⟩ := Has.right (A := .skl b T) (B := .all n fun j => .sop (obs j) (some ⟨b, 0, none⟩) (qs j)) h
  refine b1 _ _ ?_
  have h2 : Has o1 w w (.all n fun j => .sop ((fun j => if j = n then ob else obs j) j) (some ⟨b, 0, none⟩) (updA qs n q j)) := h1.weaken (Part.Imp.all fun j hj => by
    unfold updA
    dsimp only
    rw [if_neg (by omega), if_neg (by omega)]; exact Part.Imp.refl _)
  refine h2.more ?_
  unfold updA
  dsimp only
  rw [if_pos rfl, if_pos rfl]; exact hq
end Go.Proofs.YtpckpgdkfimapaaDoor
