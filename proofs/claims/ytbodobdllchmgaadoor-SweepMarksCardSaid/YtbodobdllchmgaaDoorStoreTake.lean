/- The walks of give and take: cells given back, cells taken. -/
import Derived.Test.YtbodobdllchmgaaDoorStoreAt
import Derived.Deep.RegionHeld3
namespace Go.Proofs.YtbodobdllchmgaaDoor
open Go Go.RowKit
set_option linter.unusedVariables false

variable {o : List Nat} {w0 w : World} {b : Nat} {x : StIx} {A : ASt}

/-- Numbers of cells that a slice owns. -/
noncomputable def Part.nums (v : Value) (cs : List Nat) : Part := .row 3 1 v cs.length (cs.map fun c : Nat => Value.int .i64 (c : Int))

theorem nums_open {v : Value} {cs : List Nat} (h : Has o w0 w (.nums v cs)) : ∃ p cap, v = .slice p cs.length cap ∧ cs.length ≤ maxLen ∧ w.ownsRow 0 3 1 v cs.length (cs.map fun c : Nat => Value.int .i64 (c : Int)) ∧
    (0 < cs.length → ∃ g, p = some ⟨g, 0, none⟩ ∧ ∀ i (hi : i < cs.length), w.cell? ⟨g, i, none⟩ = some (.int .i64 ((cs[i] : Nat) : Int))) := by
  obtain ⟨fp, ⟨hr, _⟩, _⟩ := h
  rcases rowN_open hr with ⟨e, h0⟩ | ⟨g, c, e, h1, h2, _, _, hc⟩
  · exact ⟨none, 0, by rw [h0]; exact e, by rw [h0]; exact Nat.zero_le _, hr, fun h => by omega⟩
  · exact ⟨_, c, e, Nat.le_trans h1 h2, hr, fun _ => ⟨g, rfl, fun i hi => hc i _ (by rw [List.getElem?_map, List.getElem?_eq_getElem hi]; rfl)⟩⟩

theorem Has.nilNums (w : World) : Has [] w w (.nums (.slice none 0 0) []) := ⟨[], ⟨World.ownsRow_nil _ _ _ _, by simp [rowsOf, Value.ownBlock]⟩, by simp, Kept.refl _ _⟩

/-- What is left when some cells are given back. -/
def dropAll (S : Ar) (cs : List Nat) : Ar := cs.foldl Ar.drop S

theorem dropAll_size (S : Ar) (cs : List Nat) : (dropAll S cs).size = S.size := by
  unfold dropAll
  induction cs generalizing S with
  | nil => rfl
  | cons c cs ih => rw [List.foldl_cons, ih]; rfl
theorem dropAll_steps (S : Ar) (cs : List Nat) : (dropAll S cs).steps = S.steps := by
  unfold dropAll
  induction cs generalizing S with
  | nil => rfl
  | cons c cs ih => rw [List.foldl_cons, ih]; rfl
theorem dropAll_get (S : Ar) (cs : List Nat) (d : Nat) : (dropAll S cs).get d = if d ∈ cs then none else S.get d := by
  unfold dropAll
  induction cs generalizing S with
  | nil => simp
  | cons c cs ih =>
    rw [List.foldl_cons, ih]
    by_cases h : d ∈ cs
    · rw [if_pos h, if_pos (List.mem_cons_of_mem _ h)]
    · rw [if_neg h]
      show (if d = c then none else S.get d) = _
      by_cases e : d = c
      · rw [if_pos e, if_pos (by simp [e])]
      · rw [if_neg e, if_neg (by simp [e, h])]
theorem dropAll_snoc (S : Ar) (cs : List Nat) (c : Nat) : dropAll S (cs ++ [c]) = (dropAll S cs).drop c := by
  unfold dropAll
  rw [List.foldl_append]; rfl

theorem stp_free (h : Has o w0 w (StP b x A)) (c : Nat) (v : Int) (hg : x.S.get c = some v) :
    Calls Tryd.prog 84 #[.pointer (some ⟨x.ab, 0, none⟩), .int .i64 c] w fun e w' => e = .returned (.int .i64 0) ∧ Has o w0 w' (StP b { x with S := x.S.drop c } A) := by
  obtain ⟨o', hO, _, back⟩ := stp_arena h
  refine (own_free hO c v hg).mono ?_
  rintro e w' ⟨rfl, h'⟩
  exact ⟨rfl, back _ _ h'⟩

theorem stp_free2 {B : Part} (h : Has o w0 w ((StP b x A).sep B)) (c : Nat) (v : Int) (hg : x.S.get c = some v) :
    Calls Tryd.prog 84 #[.pointer (some ⟨x.ab, 0, none⟩), .int .i64 c] w fun e w' => e = .returned (.int .i64 0) ∧ Has o w0 w' ((StP b { x with S := x.S.drop c } A).sep B) := by
  obtain ⟨o1, h1, _, _, b1⟩ := h.left
  refine (stp_free h1 c v hg).mono ?_
  rintro e w' ⟨rfl, h'⟩
  exact ⟨rfl, b1 _ _ h'⟩

set_option maxHeartbeats 2000000 in
set_option maxRecDepth 100000 in
theorem give_walk {lv : Value} {cs : List Nat} (h : Has o w0 w ((StP b x A).sep (.nums lv cs))) (hd : cs.Nodup) (hs : ∀ c ∈ cs, (x.S.get c).isSome = true) :
    Calls Tryd.prog 70 #[.pointer (some ⟨b, 0, none⟩), lv] w fun e w' => e = .returned (.tuple #[]) ∧ Has o w0 w' ((StP b { x with S := dropAll x.S cs } A).sep (.nums lv cs)) := by
  obtain ⟨o1, h1, _⟩ := h.right
  obtain ⟨p, cap, rfl, hlen, _, _⟩ := nums_open h1
  have h9 : cs.length ≤ 9223372036854775807 := Nat.le_trans hlen (by decide)
  have HX := Lib.hid h
  have HD := Lib.hid hd
  have HS := Lib.hid hs
  clear h h1 hd hs hlen
  go_enter Tryd.func70, Tryd.ntmps70
  go_wp2_with fail
  go_loopg [8] cs.length (fun k iv wr => ∃ i : Nat, i ≤ cs.length ∧ k = cs.length - i ∧ iv = .int .i64 i ∧ Has o w0 wr ((StP b { x with S := dropAll x.S (cs.take i) } A).sep (.nums (.slice p cs.length cap) cs)))
  case atStart => exact ⟨0, Nat.zero_le _, rfl, rfl, HX.out⟩
  case round =>
    clear HX
    obtain ⟨i, hi, hk, rfl, hX⟩ := hrel
    have HKK := Lib.hid hk
    by_cases hlt : i < cs.length
    · have hdd : decide ((i : Int) < (cs.length : Int)) = true := by simp; omega
      have hdd' : decide (i < cs.length) = true := by simp; omega
      obtain ⟨o1, h1, _⟩ := hX.right
      obtain ⟨_, _, he, _, _, hc⟩ := nums_open h1
      obtain ⟨g, hp, hc⟩ := hc (by omega)
      have c0 := hc i hlt
      obtain ⟨o2, h2, _⟩ := hX.left
      obtain ⟨c1, _, _, _⟩ := StP.fields h2
      have hnot : cs[i] ∉ cs.take i := fun hm => by
        obtain ⟨j, hj, e⟩ := List.mem_iff_getElem.1 hm
        rw [List.length_take] at hj
        rw [List.getElem_take] at e
        exact (List.pairwise_iff_getElem.1 HD.out j i (by omega) hlt (by omega)) e
      obtain ⟨v, hv⟩ := Option.isSome_iff_exists.1 (HS.out cs[i] (List.getElem_mem hlt))
      have HF := Lib.hid (stp_free2 hX cs[i] v (by show (dropAll x.S (cs.take i)).get _ = _; rw [dropAll_get, if_neg hnot, hv]))
      have hsn : cs.take (i + 1) = cs.take i ++ [cs[i]] := by rw [List.take_add_one, List.getElem?_eq_getElem hlt]; rfl
      have HSN := Lib.hid hsn
      have hpg : p = some ⟨g, 0, none⟩ := by simp only [Value.slice.injEq] at he; rw [he.1, hp]
      clear hk hX h1 h2 hc he hp hnot hv hsn
      subst hpg
      generalize cs[i] = ci at *
      go_wp2_with fail
      refine HF.out.mono ?_
      rintro e w4 ⟨rfl, hX4⟩
      have HX4 := Lib.hid hX4
      clear hX4
      go_wp2_with fail
      go_roundg (cs.length - (i + 1))
      case measure => rw [HKK.out]; omega
      case rel => exact ⟨i + 1, by omega, rfl, by go_num, by rw [HSN.out, dropAll_snoc]; exact HX4.out⟩
    · have hdd : decide ((i : Int) < (cs.length : Int)) = false := by simp; omega
      have hdd' : decide (i < cs.length) = false := by simp; omega
      obtain rfl : i = cs.length := by omega
      rw [List.take_length] at hX
      have HX := Lib.hid hX
      clear hk hX
      go_wp2_with fail
      go_end0
      exact ⟨rfl, HX.out⟩

/-- What is left when some cells are taken. -/
def putAll (S : Ar) (cs : List Nat) : Ar := cs.foldl (fun S c => S.put c 0) S

theorem putAll_size (S : Ar) (cs : List Nat) : (putAll S cs).size = S.size := by
  unfold putAll
  induction cs generalizing S with
  | nil => rfl
  | cons c cs ih => rw [List.foldl_cons, ih]; rfl
theorem putAll_steps (S : Ar) (cs : List Nat) : (putAll S cs).steps = S.steps := by
  unfold putAll
  induction cs generalizing S with
  | nil => rfl
  | cons c cs ih => rw [List.foldl_cons, ih]; rfl
theorem putAll_snoc (S : Ar) (cs : List Nat) (c : Nat) : putAll S (cs ++ [c]) = (putAll S cs).put c 0 := by
  unfold putAll
  rw [List.foldl_append]; rfl
theorem putAll_get (S : Ar) (cs : List Nat) (d : Nat) : (putAll S cs).get d = if d ∈ cs then some 0 else S.get d := by
  unfold putAll
  induction cs generalizing S with
  | nil => simp
  | cons c cs ih =>
    rw [List.foldl_cons, ih]
    by_cases h : d ∈ cs
    · rw [if_pos h, if_pos (List.mem_cons_of_mem _ h)]
    · rw [if_neg h]
      show (if d = c then some 0 else S.get d) = _
      by_cases e : d = c
      · rw [if_pos e, if_pos (by simp [e])]
      · rw [if_neg e, if_neg (by simp [e, h])]

theorem least_free (get : Nat → Option Int) (n : Nat) (h : cnt get n < n) : ∃ c, c < n ∧ get c = none ∧ ∀ d, d < c → (get d).isSome = true := by
  induction n with
  | zero => omega
  | succ n ih =>
    unfold cnt at h
    by_cases hc : cnt get n < n
    · obtain ⟨c, h1, h2, h3⟩ := ih hc
      exact ⟨c, by omega, h2, h3⟩
    · have hall : ∀ d, d < n → (get d).isSome = true := by
        have gen : ∀ m, m ≤ cnt get m → ∀ d, d < m → (get d).isSome = true := by
          intro m
          induction m with
          | zero => intro _ d hd; omega
          | succ m ihm =>
            intro hm d hd
            unfold cnt at hm
            have hle : cnt get m ≤ m := by
              clear ihm hm hd
              induction m with
              | zero => exact Nat.le_refl _
              | succ m ih => unfold cnt; split <;> omega
            cases e : (get m).isSome with
            | false => rw [e] at hm; simp at hm; omega
            | true =>
              rw [e] at hm
              by_cases hdm : d = m
              · rw [hdm]; exact e
              · exact ihm (by simp at hm; omega) d (by omega)
        exact gen n (by omega)
      cases e : get n with
      | none => exact ⟨n, by omega, e, hall⟩
      | some v => rw [e] at h; simp at h; omega

theorem cnt_all {get : Nat → Option Int} {n : Nat} (h : n ≤ cnt get n) : ∀ d, d < n → (get d).isSome = true := by
  intro d hd
  cases e : (get d).isSome with
  | true => rfl
  | false =>
    exfalso
    have gen : ∀ m, d < m → cnt get m < m := by
      intro m
      induction m with
      | zero => intro h; omega
      | succ m ih =>
        intro hm
        unfold cnt
        have := cnt_le get m
        by_cases hdm : d = m
        · subst hdm; rw [e]; simp; omega
        · have := ih (by omega); split <;> omega
    have := gen n hd
    omega

theorem cnt_put {get : Nat → Option Int} {c : Nat} (v : Int) (n : Nat) (hc : c < n) (h : get c = none) : cnt (fun d => if d = c then some v else get d) n = cnt get n + 1 := by
  have same : ∀ m, m ≤ c → cnt (fun d => if d = c then some v else get d) m = cnt get m := by
    intro m
    induction m with
    | zero => intro _; rfl
    | succ m ih => intro hm; unfold cnt; rw [ih (by omega)]; simp only [if_neg (show ¬ m = c by omega)]
  induction n with
  | zero => omega
  | succ n ih =>
    unfold cnt
    by_cases e : c = n
    · subst e
      rw [same c (Nat.le_refl _), if_pos rfl, h]; simp
    · rw [ih (by omega)]; simp only [if_neg (show ¬ n = c from fun h => e h.symm)]; omega

theorem tab_out (hT : TabAt w0) (ho : 0 ∉ o) {o' : List Nat} (h : ∀ y ∈ o', y ∈ o ∨ w0.heap.size ≤ y) : 0 ∉ o' := fun m => by
  rcases h _ m with h | h
  · exact ho h
  · have := hT.pos; omega

theorem stp_alloc2 {B : Part} (h : Has o w0 w ((StP b x A).sep B)) (hT : TabAt w0) (ho : 0 ∉ o) (c : Nat) (hc : c < x.S.size) (hg : x.S.get c = none) (hleast : ∀ d, d < c → (x.S.get d).isSome = true) :
    Calls Tryd.prog 69 #[.pointer (some ⟨x.ab, 0, none⟩)] w fun e w' => e = .returned (.tuple #[.int .i64 c, .int .i64 0]) ∧ Has o w0 w' ((StP b { x with S := x.S.put c 0 } A).sep B) := by
  have hTw : TabAt w := hT.kept h.keeps ho
  obtain ⟨o1, h1, p1, _, b1⟩ := h.left
  obtain ⟨o2, hO, p2, back⟩ := stp_arena h1
  have hto := tab_out hT ho p1
  have hto2 := tab_out hTw hto p2
  refine (own_alloc hO hTw c hc hg hleast hto2).mono ?_
  rintro e w' ⟨rfl, h'⟩
  exact ⟨rfl, b1 _ _ (back _ _ h')⟩

theorem stp_alloc2_full {B : Part} (h : Has o w0 w ((StP b x A).sep B)) (hfull : ∀ c, c < x.S.size → (x.S.get c).isSome = true) :
    Calls Tryd.prog 69 #[.pointer (some ⟨x.ab, 0, none⟩)] w fun e w' => e = .returned (.tuple #[.int .i64 0, .int .i64 31]) ∧ Has o w0 w' ((StP b x A).sep B) := by
  obtain ⟨o1, h1, p1, _, b1⟩ := h.left
  obtain ⟨o2, hO, p2, back⟩ := stp_arena h1
  refine (own_alloc_full hO hfull).mono ?_
  rintro e w' ⟨rfl, h'⟩
  exact ⟨rfl, b1 _ _ (back _ _ h')⟩

theorem stp_store2 {B : Part} (h : Has o w0 w ((StP b x A).sep B)) (c : Nat) (u v : Int) (hg : x.S.get c = some u) :
    Calls Tryd.prog 61 #[.pointer (some ⟨x.ab, 0, none⟩), .int .i64 c, .int .u64 v] w fun e w' => e = .returned (.int .i64 0) ∧ Has o w0 w' ((StP b { x with S := x.S.step.put c v } A).sep B) := by
  obtain ⟨o1, h1, p1, _, b1⟩ := h.left
  obtain ⟨o2, hO, p2, back⟩ := stp_arena h1
  refine (own_store hO c u v hg).mono ?_
  rintro e w' ⟨rfl, h'⟩
  exact ⟨rfl, b1 _ _ (back _ _ h')⟩

/-- Cells that were free and are taken now. -/
structure Took (S : Ar) (cs : List Nat) : Prop where
  nodup : cs.Nodup
  free : ∀ c ∈ cs, S.get c = none ∧ c < S.size
  count : cnt (putAll S cs).get S.size = cnt S.get S.size + cs.length

theorem Took.nil (S : Ar) : Took S [] := ⟨List.nodup_nil, fun c hc => by simp at hc, rfl⟩
theorem Took.snoc {S : Ar} {cs : List Nat} (h : Took S cs) {c : Nat} (hc : c < S.size) (hg : (putAll S cs).get c = none) : Took S (cs ++ [c]) := by
  rw [putAll_get] at hg
  by_cases hm : c ∈ cs
  · rw [if_pos hm] at hg; cases hg
  · rw [if_neg hm] at hg
    refine ⟨?_, fun d hd => ?_, ?_⟩
    · rw [List.nodup_append]
      exact ⟨h.nodup, by simp, fun a ha d hd e => hm (by rw [List.mem_singleton] at hd; rw [← hd, ← e]; exact ha)⟩
    · rcases List.mem_append.1 hd with hd | hd
      · exact h.free d hd
      · rw [List.mem_singleton.1 hd]; exact ⟨hg, hc⟩
    · rw [putAll_snoc, List.length_append]
      have := cnt_put (get := (putAll S cs).get) 0 S.size hc (by rw [putAll_get, if_neg hm]; exact hg)
      show cnt (fun d => if d = c then some 0 else (putAll S cs).get d) S.size = _
      rw [this, h.count]; rfl

theorem nums_more {w5 : World} {v v' : Value} {cs : List Nat} {B C : Part} {c : Nat} (ob : Obj) (h : Has o w0 w (B.sep (C.sep (.nums v cs)))) (happ : Appended (w.alloc ob) w5 3 1 v v' (cs.length + 1) ((cs.map fun c : Nat => Value.int .i64 (c : Int)) ++ [.int .i64 c])) :
    Has o w0 w5 (B.sep (C.sep (.nums v' (cs ++ [c])))) := by
  obtain ⟨o1, h1, _, _, b1⟩ := h.right
  obtain ⟨o2, h2, _, _, b2⟩ := h1.right
  have h3 := Has.rowAppend ob h2 happ
  refine b1 _ _ (b2 _ _ ?_)
  unfold Part.nums
  rw [List.length_append, List.map_append]
  exact h3

theorem info_num : (Tryd.prog.info? 3).map (fun i => (i.zero, i.size, i.bytes)) = some (some (.int .i64 0), 1, 8) := by kernel_rfl

/-- Words that are laid at first. -/
noncomputable def Part.words (hb m : Nat) (vs : Nat → Int) : Part := .blk hb m 56 fun i => .int .u64 (vs i)

theorem words_cell {C : Part} {hb m : Nat} {vs : Nat → Int} {P : Part} (h : Has o w0 w (P.sep ((Part.words hb m vs).sep C))) {i : Nat} (hi : i < m) : w.cell? ⟨hb, i, none⟩ = some (.int .u64 (vs i)) := by
  obtain ⟨o1, h1, _⟩ := h.right
  obtain ⟨o2, h2, _⟩ := h1.left
  exact (h2.blkAt hi).1

/-- What the cells have behind the laying. -/
structure Laid (S S' : Ar) (cs : List Nat) (f : Nat → Int) : Prop where
  size : S'.size = S.size
  has : ∀ i (hi : i < cs.length), S'.get cs[i] = some (f i)
  rest : ∀ d, d ∉ cs → S'.get d = S.get d

set_option maxHeartbeats 4000000 in
set_option maxRecDepth 100000 in
theorem take_ok {hb m : Nat} {vs : Nat → Int} (h : Has o w0 w ((StP b x A).sep (.words hb m vs))) (hT : TabAt w0) (ho : 0 ∉ o) (hm : m ≤ 100) (hfree : cnt x.S.get x.S.size + m ≤ x.S.size) :
    Calls Tryd.prog 54 #[.pointer (some ⟨b, 0, none⟩), .slice (some ⟨hb, 0, none⟩) m m] w fun e w' => ∃ uv cs S', e = .returned (.tuple #[uv, .int .i64 0]) ∧ cs.length = m ∧ Took x.S cs ∧ Laid x.S S' cs vs ∧ Has o w0 w' ((StP b { x with S := S' } A).sep ((Part.words hb m vs).sep (.nums uv cs))) := by
  have HT := Lib.hid hT
  have HO := Lib.hid ho
  have HX := Lib.hid ((h.beside (Has.nilNums _)).assoc)
  have HF := Lib.hid hfree
  obtain ⟨i0, hi0, hz0, hz1, hz2⟩ := info_parts info_num
  clear h hT ho hfree
  go_enter Tryd.func54, Tryd.ntmps54
  go_wp2_with fail
  go_loopg [6, 13] m (fun k uv iv wr => ∃ (i : Nat) (cs : List Nat), i ≤ m ∧ k = m - i ∧ iv = .int .i64 i ∧ cs.length = i ∧ Took x.S cs ∧ Has o w0 wr ((StP b { x with S := putAll x.S cs } A).sep ((Part.words hb m vs).sep (.nums uv cs))))
  case atStart => exact ⟨0, [], Nat.zero_le _, rfl, rfl, rfl, Took.nil _, HX.out⟩
  case round =>
    clear HX
    obtain ⟨i, cs, hi, hk, rfl, hcl, htk, hX⟩ := hrel
    have HKK := Lib.hid hk
    have HCL := Lib.hid hcl
    have HTK := Lib.hid htk
    by_cases hlt : i < m
    · have hdd : decide ((i : Int) < (m : Int)) = true := by simp; omega
      have hdd' : decide (i < m) = true := by simp; omega
      obtain ⟨o2, h2, _⟩ := hX.left
      obtain ⟨c1, _, _, _⟩ := StP.fields h2
      obtain ⟨c, hc1, hc2, hc3⟩ := least_free (putAll x.S cs).get x.S.size (by have := HF.out; have := htk.count; omega)
      have HAL := Lib.hid (stp_alloc2 hX HT.out HO.out c (by rw [putAll_size]; exact hc1) hc2 hc3)
      have HTK2 := Lib.hid (htk.snoc hc1 hc2)
      clear hk hX h2 htk hc1 hc2 hc3 hcl
      go_wp2_with fail
      refine HAL.out.mono ?_
      rintro e w4 ⟨rfl, hX4⟩
      obtain ⟨o5, h5, _⟩ := hX4.right
      obtain ⟨o6, h6, _⟩ := h5.right
      obtain ⟨np, nc, hnv, hnl, hrow, _⟩ := nums_open h6
      have HROW := Lib.hid hrow
      have HX4 := Lib.hid hX4
      have hl9 : cs.length ≤ 100 := by rw [HCL.out]; omega
      clear hX4 h5 h6 hnv hrow hnl
      go_wp2_with (at_builtin; refine wpList_append_new rfl (.tmp 29) (.tmp 31) 22 rfl 3 i0 (.int .i64 0) 1 8 Tryd.underlying22 hi0 hz0 hz1 hz2 rfl (by decide) _ _ _ rfl (HROW.out.alloc _) ⟨_, 0, none⟩ 1 1 [.int .i64 c] rfl rfl (cell_one _ _ _ _ (by simp)) (by simp [Value.oneCell']) (by simp only [maxLen]; omega) (by omega) ?_)
      intro v' w5 happ
      have HX5 := Lib.hid (nums_more _ HX4.out happ)
      clear happ HROW HX4
      go_wp2_with fail
      go_roundg (m - (i + 1))
      case measure => rw [HKK.out]; omega
      case rel => exact ⟨i + 1, cs ++ [c], by omega, rfl, by go_num, by rw [List.length_append, HCL.out]; rfl, HTK2.out, by rw [putAll_snoc]; exact HX5.out⟩
    · have hdd : decide ((i : Int) < (m : Int)) = false := by simp; omega
      have hdd' : decide (i < m) = false := by simp; omega
      obtain rfl : i = m := by omega
      have HX := Lib.hid hX
      clear hk hX htk hcl
      obtain ⟨o7, h7, _⟩ := HX.out.right
      obtain ⟨o8, h8, _⟩ := h7.right
      obtain ⟨np, nc, rfl, _, _, _⟩ := nums_open h8
      rw [HCL.out] at HX
      rw [HCL.out]
      clear h7 h8
      go_wp2_with fail
      have hstart : Laid x.S (putAll x.S cs) cs (fun d => if d < 0 then vs d else 0) := ⟨putAll_size _ _, fun d hd => by rw [putAll_get, if_pos (List.getElem_mem hd)]; simp, fun d hd => by rw [putAll_get, if_neg hd]⟩
      have HSTART := Lib.hid hstart
      clear hstart
      go_loopg [36] i (fun k iv wx => ∃ (j : Nat) (S' : Ar), j ≤ i ∧ k = i - j ∧ iv = .int .i64 j ∧ Laid x.S S' cs (fun d => if d < j then vs d else 0) ∧ Has o w0 wx ((StP b { x with S := S' } A).sep ((Part.words hb i vs).sep (.nums (.slice np i nc) cs))))
      case atStart => exact ⟨0, _, Nat.zero_le _, rfl, rfl, HSTART.out, HX.out⟩
      case round =>
        clear HX HSTART
        obtain ⟨j, S', hj, hk2, rfl, hlaid, hX⟩ := hrel
        have HKJ := Lib.hid hk2
        have HLD := Lib.hid hlaid
        by_cases hjm : j < i
        · have e1 : decide ((j : Int) < (i : Int)) = true := by simp; omega
          have e1' : decide (j < i) = true := by simp; omega
          have hjc : j < cs.length := by rw [HCL.out]; exact hjm
          have cw := words_cell hX hjm
          obtain ⟨o2, h2, _⟩ := hX.left
          obtain ⟨c1, _, _, _⟩ := StP.fields h2
          obtain ⟨o7, h7, _⟩ := hX.right
          obtain ⟨o8, h8, _⟩ := h7.right
          obtain ⟨np', nc', he, _, _, hc⟩ := nums_open h8
          obtain ⟨g, hnp, hc⟩ := hc (by omega)
          have c2 := hc j hjc
          have hpg : np = some ⟨g, 0, none⟩ := by simp only [Value.slice.injEq] at he; rw [he.1, hnp]
          have hget : S'.get cs[j] = some 0 := by rw [hlaid.has j hjc, if_neg (by omega)]
          have hnd : ∀ d (hd : d < cs.length), d ≠ j → cs[d] ≠ cs[j] := fun d hd hne e => by
            rcases Nat.lt_or_gt_of_ne hne with h | h
            · exact (List.pairwise_iff_getElem.1 HTK.out.nodup d j hd hjc h) e
            · exact (List.pairwise_iff_getElem.1 HTK.out.nodup j d hjc hd h) e.symm
          have hnext : Laid x.S (S'.step.put cs[j] (vs j)) cs (fun d => if d < j + 1 then vs d else 0) := by
            refine ⟨hlaid.size, fun d hd => ?_, fun d hd => ?_⟩
            · show (if cs[d] = cs[j] then some (vs j) else S'.get cs[d]) = _
              by_cases e : d = j
              · subst e; rw [if_pos rfl, if_pos (by omega)]
              · rw [if_neg (hnd d hd e), hlaid.has d hd]
                by_cases e2 : d < j
                · rw [if_pos e2, if_pos (by omega)]
                · rw [if_neg e2, if_neg (by omega)]
            · show (if d = cs[j] then some (vs j) else S'.get d) = _
              rw [if_neg fun e => hd (by rw [e]; exact List.getElem_mem hjc), hlaid.rest d hd]
          have hskip : vs j = 0 → Laid x.S S' cs (fun d => if d < j + 1 then vs d else 0) := fun hz => by
            refine ⟨hlaid.size, fun d hd => ?_, hlaid.rest⟩
            rw [hlaid.has d hd]
            by_cases e : d = j
            · subst e; rw [if_neg (by omega), if_pos (by omega), hz]
            · by_cases e2 : d < j
              · rw [if_pos e2, if_pos (by omega)]
              · rw [if_neg e2, if_neg (by omega)]
          have HNX := Lib.hid hnext
          have HSK := Lib.hid hskip
          have HX := Lib.hid hX
          have HCC := Lib.hid hc
          subst hpg
          have HST := Lib.hid (fun (w' : World) (hw : Has o w0 w' ((StP b { x with S := S' } A).sep ((Part.words hb i vs).sep (.nums (.slice (some ⟨g, 0, none⟩) i nc) cs)))) => stp_store2 hw cs[j] 0 (vs j) hget)
          have hd3 : ∀ {w' : World} {S2 : Ar}, Has o w0 w' ((StP b { x with S := S2 } A).sep ((Part.words hb i vs).sep (.nums (.slice (some ⟨g, 0, none⟩) i nc) cs))) → w'.cell? ⟨g, j, none⟩ = some (.int .i64 ((cs[j] : Nat) : Int)) := fun h => by
            obtain ⟨_, h7, _⟩ := h.right
            obtain ⟨_, h8, _⟩ := h7.right
            obtain ⟨np', nc', he, _, _, hc⟩ := nums_open h8
            obtain ⟨g', hnp, hc⟩ := hc (by omega)
            have e1 : some (⟨g, 0, none⟩ : Addr) = np' := by simp only [Value.slice.injEq] at he; exact he.1
            rw [hnp] at e1
            obtain rfl : g = g' := by simpa using e1
            exact hc j hjc
          have HD3 := Lib.hid (fun w' S2 => @hd3 w' S2)
          clear hk2 hX hlaid h2 h7 h8 hc he hnp hget hnd hnext hskip hd3 HCC
          generalize hcj : cs[j] = cj at *
          clear hcj
          generalize hvj : vs j = v at *
          clear hvj
          by_cases hv0 : v = 0
          · subst hv0
            go_wp2_with fail
            go_roundg (i - (j + 1))
            case measure => rw [HKJ.out]; omega
            case rel => exact ⟨j + 1, S', by omega, rfl, by go_num, HSK.out (by first | trivial | rfl), HX.out⟩
          · have f1 : decide (v = 0) = false := by simpa using hv0
            have f2 : (v == 0) = false := by simpa using hv0
            go_wp2_with fail
            go_region_held3 (fun w' => w'.cell? ⟨b, 0, none⟩ = some (.pointer (some ⟨x.ab, 0, none⟩)) ∧ w'.cell? ⟨g, j, none⟩ = some (.int .i64 (cj : Int)))
              (first | exact ⟨c1, c2⟩ | exact ⟨y1, y2⟩)
              (first | (go_at_call 61
                        refine (HST.out _ (HX.out.quiet ((Kept.refl _ _).drew))).mono ?_
                        rintro e w4 ⟨rfl, hX4⟩
                        obtain ⟨_, h2, _⟩ := hX4.left
                        obtain ⟨y1, _, _, _⟩ := StP.fields h2
                        have y2 := HD3.out _ _ hX4
                        have HX4 := Lib.hid hX4
                        clear hX4 h2))
            go_wp2_with fail
            go_roundg (i - (j + 1))
            case measure => rw [HKJ.out]; omega
            case rel => exact ⟨j + 1, _, by omega, rfl, by go_num, HNX.out, HX4.out⟩
        · have e1 : decide ((j : Int) < (i : Int)) = false := by simp; omega
          have e1' : decide (j < i) = false := by simp; omega
          obtain rfl : j = i := by omega
          have HX := Lib.hid hX
          clear hk2 hX hlaid
          go_wp2_with fail
          go_ret2
          refine ⟨_, cs, S', rfl, HCL.out, HTK.out, ⟨HLD.out.size, fun d hd => ?_, HLD.out.rest⟩, HX.out⟩
          rw [HLD.out.has d hd, if_pos (by rw [← HCL.out]; exact hd)]

set_option maxHeartbeats 4000000 in
set_option maxRecDepth 100000 in
theorem take_full {hb m : Nat} {vs : Nat → Int} (h : Has o w0 w ((StP b x A).sep (.words hb m vs))) (hT : TabAt w0) (ho : 0 ∉ o) (hm : m ≤ 100) (hcs : cnt x.S.get x.S.size ≤ x.S.size) (hfull : x.S.size < cnt x.S.get x.S.size + m) :
    Calls Tryd.prog 54 #[.pointer (some ⟨b, 0, none⟩), .slice (some ⟨hb, 0, none⟩) m m] w fun e w' => ∃ S', e = .returned (.tuple #[.slice none 0 0, .int .i64 31]) ∧ S'.size = x.S.size ∧ S'.steps = x.S.steps ∧ (∀ d, S'.get d = x.S.get d) ∧ Has o w0 w' (StP b { x with S := S' } A) := by
  have HT := Lib.hid hT
  have HO := Lib.hid ho
  have HX := Lib.hid ((h.beside (Has.nilNums _)).assoc)
  have HF := Lib.hid hfull
  have HCS := Lib.hid hcs
  obtain ⟨i0, hi0, hz0, hz1, hz2⟩ := info_parts info_num
  clear h hT ho hfull hcs
  go_enter Tryd.func54, Tryd.ntmps54
  go_wp2_with fail
  go_loopg [6, 13] m (fun k uv iv wr => ∃ (i : Nat) (cs : List Nat), i ≤ m ∧ k = m - i ∧ iv = .int .i64 i ∧ cs.length = i ∧ Took x.S cs ∧ Has o w0 wr ((StP b { x with S := putAll x.S cs } A).sep ((Part.words hb m vs).sep (.nums uv cs))))
  case atStart => exact ⟨0, [], Nat.zero_le _, rfl, rfl, rfl, Took.nil _, HX.out⟩
  case round =>
    clear HX
    obtain ⟨i, cs, hi, hk, rfl, hcl, htk, hX⟩ := hrel
    have HKK := Lib.hid hk
    have HCL := Lib.hid hcl
    have HTK := Lib.hid htk
    have hle : cnt (putAll x.S cs).get x.S.size ≤ x.S.size := cnt_le _ _
    have hcnt := htk.count
    by_cases hlt : i < m
    · have hdd : decide ((i : Int) < (m : Int)) = true := by simp; omega
      have hdd' : decide (i < m) = true := by simp; omega
      obtain ⟨o2, h2, _⟩ := hX.left
      obtain ⟨c1, _, _, _⟩ := StP.fields h2
      by_cases hroom : cnt (putAll x.S cs).get x.S.size < x.S.size
      · obtain ⟨c, hc1, hc2, hc3⟩ := least_free (putAll x.S cs).get x.S.size hroom
        have HAL := Lib.hid (stp_alloc2 hX HT.out HO.out c (by rw [putAll_size]; exact hc1) hc2 hc3)
        have HTK2 := Lib.hid (htk.snoc hc1 hc2)
        clear hk hX h2 htk hc1 hc2 hc3 hcl hle hcnt hroom
        go_wp2_with fail
        refine HAL.out.mono ?_
        rintro e w4 ⟨rfl, hX4⟩
        obtain ⟨o5, h5, _⟩ := hX4.right
        obtain ⟨o6, h6, _⟩ := h5.right
        obtain ⟨np, nc, hnv, hnl, hrow, _⟩ := nums_open h6
        have HROW := Lib.hid hrow
        have HX4 := Lib.hid hX4
        have hl9 : cs.length ≤ 100 := by rw [HCL.out]; omega
        clear hX4 h5 h6 hnv hrow hnl
        go_wp2_with (at_builtin; refine wpList_append_new rfl (.tmp 29) (.tmp 31) 22 rfl 3 i0 (.int .i64 0) 1 8 Tryd.underlying22 hi0 hz0 hz1 hz2 rfl (by decide) _ _ _ rfl (HROW.out.alloc _) ⟨_, 0, none⟩ 1 1 [.int .i64 c] rfl rfl (cell_one _ _ _ _ (by simp)) (by simp [Value.oneCell']) (by simp only [maxLen]; omega) (by omega) ?_)
        intro v' w5 happ
        have HX5 := Lib.hid (nums_more _ HX4.out happ)
        clear happ HROW HX4
        go_wp2_with fail
        go_roundg (m - (i + 1))
        case measure => rw [HKK.out]; omega
        case rel => exact ⟨i + 1, cs ++ [c], by omega, rfl, by go_num, by rw [List.length_append, HCL.out]; rfl, HTK2.out, by rw [putAll_snoc]; exact HX5.out⟩
      · have hall := cnt_all (n := x.S.size) (get := (putAll x.S cs).get) (by omega)
        have HAL := Lib.hid (stp_alloc2_full hX (by rw [putAll_size]; exact hall))
        clear hk hX h2 hcl hle hcnt hroom hall htk
        go_wp2_with fail
        refine HAL.out.mono ?_
        rintro e w4 ⟨rfl, hX4⟩
        have hX5 : Has o w0 w4 (((StP b { x with S := putAll x.S cs } A).sep (.nums u6 cs)).sep (.words hb m vs)) := Has.assoc' (by
          obtain ⟨o9, h9, _, _, b9⟩ := hX4.right
          exact b9 _ _ h9.swap)
        obtain ⟨o9, h9, _, _, b9⟩ := hX5.left
        obtain ⟨o6, h6, _⟩ := h9.right
        obtain ⟨np, nc, rfl, _, _, _⟩ := nums_open h6
        have HGV := Lib.hid (give_walk h9 HTK.out.nodup (fun c hc => by show ((putAll x.S cs).get c).isSome = true; rw [putAll_get, if_pos hc]; rfl))
        have HB9 := Lib.hid b9
        clear hX4 hX5 h9 h6 b9
        go_wp2_with fail
        refine HGV.out.mono ?_
        rintro e w6 ⟨rfl, hX6⟩
        have HX6 := Lib.hid (HB9.out _ _ hX6).fst.fst
        clear hX6
        go_wp2_with fail
        go_ret2
        refine ⟨_, rfl, ?_, ?_, fun d => ?_, HX6.out⟩
        · show (dropAll (putAll x.S cs) cs).size = _; rw [dropAll_size, putAll_size]
        · show (dropAll (putAll x.S cs) cs).steps = _; rw [dropAll_steps, putAll_steps]
        · show (dropAll (putAll x.S cs) cs).get d = _
          rw [dropAll_get, putAll_get]
          by_cases hd : d ∈ cs
          · rw [if_pos hd, (HTK.out.free d hd).1]
          · rw [if_neg hd, if_neg hd]
    · exfalso
      have := HF.out
      omega
end Go.Proofs.YtbodobdllchmgaaDoor
