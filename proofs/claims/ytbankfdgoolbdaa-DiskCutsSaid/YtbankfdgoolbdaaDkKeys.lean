/- The names, rising: slices.Sorted(maps.Keys(m)); Names walked. -/
import Derived.Test.YtbankfdgoolbdaaDkLib
namespace Go.Proofs.Ytbankfdgoolbdaa
open Go Go.RowKit Go.Lib Go.Shelf Go.Sort Go.Maps Go.Proofs
set_option linter.unusedVariables false
variable {o : List Nat} {w0 w w' : World} {db : Nat} {a : ADk}

theorem keys_walk (mb : Option Nat) (W : World) : CallsIn Fence.wide 5 Try.prog 39 #[.map mb] W fun e w' => e = .returned (.func (.func 56) #[] #[.pointer (some ⟨W.heap.size, 0, none⟩)]) ∧ w' = W.alloc (.cells #[.map mb] 60) :=
  AnyZ.keys_in sh_keys39 Fence.wide 5 trivial rfl mb W

set_option maxHeartbeats 1000000 in
theorem sorted_walk {H : Type} (b nn : Nat) (D0 : DataW H) (R : Value → Option (DataW H × List MemPlace)) (w : World) (hown : w.ownsMap Try.prog 9 R b nn D0) (hmax : Maps.size D0 ≤ maxLen) (hbytes : Maps.size D0 * 16 ≤ 140737488355328) :
    CallsIn Fence.wide 5 Try.prog 38 #[.func (.func 56) #[] #[.pointer (some ⟨w.heap.size, 0, none⟩)]] (w.alloc (.cells #[.map (some b)] 60)) fun e w' => ∃ (v : Value) (ss : List (List UInt8)), e = .returned v ∧ ss.Perm (strKeys D0) ∧
      w'.ownsRow (w.alloc (.cells #[.map (some b)] 60)).heap.size 9 1 v ss.length ((ss.mergeSort (fun x y => decide (x ≤ y))).map encStr) ∧ (v = .slice none 0 0 ↔ ss = []) ∧ Below (w.alloc (.cells #[.map (some b)] 60)).heap.size (w.alloc (.cells #[.map (some b)] 60)) w' := by
  have hbl := hown.lt
  have hseq : SeqGives Fence.wide 2 Try.prog 56 #[.pointer (some ⟨w.heap.size, 0, none⟩)] encStr (fun ss => ss.Perm (strKeys D0)) (Maps.size D0) (w.alloc (.cells #[.map (some b)] 60)) :=
    AnyZ.keys_gives (ρ := sh_keys39_ren) { sh_keys39 with } Fence.wide _ trivial rfl (by omega) w.heap.size b nn D0 _ (by simp) (by simp) (by
      obtain ⟨es, clock, hb, Ft, hs, hD⟩ := hown
      exact ⟨es, clock, (Below.heap_alloc _ _ b hbl).trans hb, Ft, hs, hD⟩)
  exact AnyZ.sorted_in sh_sorted38 Fence.wide 5 trivial trivial trivial trivial rfl (by omega) (sorts38 _) (enters_of Try.func55 (by kernel_rfl) rfl) 56 #[.pointer (some ⟨w.heap.size, 0, none⟩)] trivial (enters_of Try.func56 (by kernel_rfl) rfl) _ _ hmax hbytes _ hseq

/-- Rising names are sorted. -/
theorem le_of_before : ∀ {a b : Nm}, bytesBefore a b = true → a ≤ b
  | [], [], h => by simp [bytesBefore] at h
  | [], _ :: _, _ => List.nil_le _
  | _ :: _, [], h => by simp [bytesBefore] at h
  | x :: r, y :: s, h => by
    simp only [bytesBefore, Bool.or_eq_true, decide_eq_true_eq, Bool.and_eq_true, beq_iff_eq] at h
    rw [List.cons_le_cons_iff]
    rcases h with h | ⟨e, h⟩
    · exact .inl h
    · exact .inr ⟨e, le_of_before h⟩

theorem names_sorted {α : Type} {l : List (Nm × α)} (h : Rising l) {ss : List Nm} (hp : ss.Perm (l.map (·.1))) : ss.mergeSort (fun x y => decide (x ≤ y)) = l.map (·.1) := by
  have h1 : (l.map (·.1)).Pairwise (fun x y => decide (x ≤ y) = true) := by
    rw [List.pairwise_map]
    exact h.imp fun hb => by simpa using le_of_before hb
  have htr : ∀ (a b c : Nm), decide (a ≤ b) = true → decide (b ≤ c) = true → decide (a ≤ c) = true := fun a b c h1 h2 => by
    simp only [decide_eq_true_eq] at *
    exact List.le_trans h1 h2
  have hto : ∀ (a b : Nm), (decide (a ≤ b) || decide (b ≤ a)) = true := fun a b => by
    have := List.le_total a b
    simpa using this
  have h2 := List.pairwise_mergeSort (le := fun x y => decide (x ≤ y)) htr hto ss
  have hp2 : (ss.mergeSort (fun x y => decide (x ≤ y))).Perm (l.map (·.1)) := (List.mergeSort_perm _ _).trans hp
  refine hp2.eq_of_pairwise (fun a b _ _ h1 h2 => ?_) h2 h1
  simp only [decide_eq_true_eq] at h1 h2
  exact List.le_antisymm h1 h2

set_option maxHeartbeats 2000000 in
/-- Names. -/
theorem names_walk (h : Has o w0 w (Dk db a)) :
    Calls Try.prog 19 #[ptr db] w fun e w' => ∃ v, e = .returned v ∧ Has [] w w' (.row 9 1 v a.names.length (a.names.map nmV)) := by
  obtain ⟨ha, L, hL⟩ := dk_open h
  have c0 : w.cell? ⟨db, 0, none⟩ = some (.map (some L.mb)) := (dkl_cell hL 0 (by omega)).1
  have hM := dkl_now hL
  have hn := ha.now
  have hlen : Maps.size (dmap (dirV L.addr a.now)) = a.now.length := by rw [dmap_size, dirV_len]
  have hsm : a.now.length ≤ 64 := hn.len
  have hkeys : strKeys (dmap (dirV L.addr a.now)) = a.now.map (·.1) := by
    show ((dmapL (dirV L.addr a.now)).map fun p => strOf p.1) = _
    unfold dmapL dirV alMap
    rw [List.map_map, List.map_map]
    rfl
  have HS := Lib.hid (sorted_walk L.mb _ _ anyElem w hM (by rw [hlen]; have : (64 : Nat) ≤ maxLen := by decide
                                                            omega) (by rw [hlen]; omega))
  have HK := Lib.hid hkeys
  have HR := Lib.hid hn.rise
  clear hM hn hlen hsm hkeys h hL ha
  unfold ptr
  refine (callsIn_wide (n := 6)).1 ?_
  have hfK : Fence.wide.fn 39 := trivial
  have hfS : Fence.wide.fn 38 := trivial
  refine callsIn_of_wp Try.func19 rfl trivial ?_ rfl
  simp only [Try.ntmps19, List.size_toArray, List.length_cons, List.length_nil, Nat.reduceAdd, Nat.reduceSub, Array.replicate_succ, Array.replicate_zero, List.push_toArray, List.append_toArray, List.nil_append, List.cons_append]
  gi_wp2_with (first
    | (gi_at_call 39; refine (keys_walk _ _).mono ?_; rintro e w' ⟨rfl, rfl⟩)
    | (gi_at_call 38; refine HS.out.mono ?_; rintro e w' ⟨v, ss, rfl, hS, hrow, _, hb⟩))
  go_ret
  have e1 := names_sorted HR.out (ss := ss) (HK.out ▸ hS)
  have e2 : ss.length = a.names.length := by rw [(hS.length_eq), HK.out]; rfl
  rw [e1, e2] at hrow
  have kb : Kept [] w w' := ((Kept.refl [] w).alloc _).tr (.of_below hb)
  exact ⟨v, rfl, has_row (ownsRow_base_a hrow (by simp)) kb⟩

theorem names_nil (w : World) : Calls Try.prog 19 #[.pointer none] w fun e w' => e = .returned (.slice none 0 0) ∧ Kept [] w w' := by
  go_enter Try.func19, Try.ntmps19
  go_wp2_with fail
  go_ret
  exact ⟨rfl, Kept.refl _ _⟩

end Go.Proofs.Ytbankfdgoolbdaa
