/- The walk of 'right', the program's and the reference's: are the programs right? -/
import Derived.Test.YtfipoadgfebibaaDoorProgs
import Derived.Test.YtfipoadgfebibaaDoorOwn
namespace Go.Proofs.YtfipoadgfebibaaDoor
open Go Go.RowKit
set_option linter.unusedVariables false

/-- A call has told whether something is so, and has left all as it was. -/
structure Tells (Q : Prop) (w : World) (e : Ending) (w' : World) : Prop where
  says : ∃ b, e = .returned (.bool b) ∧ (b = true ↔ Q)
  kept : Kept [] w w'

set_option maxHeartbeats 4000000 in
set_option maxRecDepth 100000 in
theorem right_walk (w : World) (size : Int) (v : Value) (n : Nat) (L : Nat → Nat) (vs : Nat → Value) (P : Nat → Nat → OpV) (h : ProgsAt w v n L vs P) :
    Calls Tryd.prog 18 #[.int .i64 size, v] w fun e w' => Tells (runOk size n L P) w e w' := by
  obtain ⟨p, cap, rfl, hn, hO, hC⟩ := h
  have HN := Lib.hid hn
  have HO := Lib.hid hO
  have HC := Lib.hid hC
  clear hn hO hC
  go_enter Tryd.func18, Tryd.ntmps18
  by_cases h1 : size < 1
  · have d1 : decide (size < 1) = true := by simpa using h1
    go_wp2_with fail
    go_ret
    exact ⟨⟨false, rfl, ⟨fun h => (by cases h), fun h => (by have := h.1; omega)⟩⟩, Kept.refl _ _⟩
  have d1 : decide (size < 1) = false := by simpa using h1
  by_cases h2 : 65536 < size
  · have d2 : decide (size > 65536) = true := by simpa using h2
    go_wp2_with fail
    go_ret
    exact ⟨⟨false, rfl, ⟨fun h => (by cases h), fun h => (by have := h.2.1; omega)⟩⟩, Kept.refl _ _⟩
  have d2 : decide (size > 65536) = false := by simp; omega
  by_cases h3 : 16 < n
  · have d3 : decide (n > 16) = true := by simpa using h3
    have d3' : decide ((n : Int) > 16) = true := by simp; omega
    go_wp2_with fail
    go_ret
    exact ⟨⟨false, rfl, ⟨fun h => (by cases h), fun h => (by have := h.2.2.1; omega)⟩⟩, Kept.refl _ _⟩
  have d3 : decide (n > 16) = false := by simp; omega
  have d3' : decide ((n : Int) > 16) = false := by simp; omega
  go_wp2_with fail
  clear d1 d2 d3 d3'
  have H1 := Lib.hid h1
  have H2 := Lib.hid h2
  have H3 := Lib.hid h3
  clear h1 h2
  go_loopg [22] n (fun k iv wr => ∃ i : Nat, i ≤ n ∧ k = n - i ∧ iv = .int .i64 i ∧ Kept [] w wr ∧ ∀ j, j < i → progOk size (L j) (P j))
  case atStart => exact ⟨0, Nat.zero_le _, rfl, rfl, Kept.refl _ _, fun j hj => by omega⟩
  case round =>
    obtain ⟨i, hi, hk, rfl, hK, hP⟩ := hrel
    have HKK := Lib.hid hk
    have HK := Lib.hid hK
    have HP := Lib.hid hP
    clear hk hK hP
    by_cases hlt : i < n
    · have hd : decide ((i : Int) < (n : Int)) = true := by simp; omega
      have hd' : decide (i < n) = true := by simp; omega
      obtain ⟨ab, off, rfl, hab, hcells⟩ := HC.out (by omega)
      have hci := hcells i hlt
      have HCI := Lib.hid hci
      have c0 := HK.out.cell hci (by simp)
      clear hci
      obtain ⟨q, qcap, hvs, hqn, hqr, hq⟩ := HO.out i hlt
      rw [hvs] at c0
      generalize hL : L i = m at *
      have HL := Lib.hid hL
      have HVS := Lib.hid hvs
      have HQ := Lib.hid hq
      have HQN := Lib.hid hqn
      clear hcells hL hvs hq hqr hqn
      by_cases hm : 65536 < m
      · have d1 : decide (m > 65536) = true := by simpa using hm
        have d1' : decide ((m : Int) > 65536) = true := by simp; omega
        go_wp2_with fail
        go_ret
        exact ⟨⟨false, rfl, ⟨fun h => (by cases h), fun h => (by have := (h.2.2.2 i hlt).1; have := HL.out; omega)⟩⟩, HK.out⟩
      have d1 : decide (m > 65536) = false := by simp; omega
      have d1' : decide ((m : Int) > 65536) = false := by simp; omega
      go_wp2_with fail
      clear d1 d1' c0
      go_loopg [31] m (fun k jv wr => ∃ j : Nat, j ≤ m ∧ k = m - j ∧ jv = .int .i64 j ∧ Kept [] w wr ∧ ∀ l, l < j → opOk size (P i l))
      case atStart => exact ⟨0, Nat.zero_le _, rfl, rfl, HK.out, fun j hj => by omega⟩
      case round =>
        clear HK
        obtain ⟨j, hj, hk, rfl, hK, hQ⟩ := hrel
        have HKJ := Lib.hid hk
        have HK := Lib.hid hK
        have HPJ := Lib.hid hQ
        clear hk hK hQ
        have c0 := HK.out.cell HCI.out (by simp)
        rw [HVS.out] at c0
        by_cases hjm : j < m
        · have hdm : decide ((j : Int) < (m : Int)) = true := by simp; omega
          have hdm' : decide (j < m) = true := by simp; omega
          obtain ⟨qb, qoff, rfl, hqb, hqc⟩ := HQ.out (by omega)
          obtain ⟨e0, e1, e2, e3⟩ := hqc j hjm
          have e0 := HK.out.cell e0 (by simp)
          have e1 := HK.out.cell e1 (by simp)
          have e2 := HK.out.cell e2 (by simp)
          have e3 := HK.out.cell e3 (by simp)
          clear hqc
          by_cases hk1 : (P i j).k < 1
          · have f1 : decide ((P i j).k < 1) = true := by simpa using hk1
            go_wp2_with fail
            go_ret
            exact ⟨⟨false, rfl, ⟨fun h => (by cases h), fun h => (by have := ((h.2.2.2 i hlt).2 j (by have := HL.out; omega)).1; omega)⟩⟩, by exact HK.out.alloc _⟩
          have f1 : decide ((P i j).k < 1) = false := by simp; omega
          by_cases hk2 : 4 < (P i j).k
          · have f2 : decide ((P i j).k > 4) = true := by simpa using hk2
            go_wp2_with fail
            go_ret
            exact ⟨⟨false, rfl, ⟨fun h => (by cases h), fun h => (by have := ((h.2.2.2 i hlt).2 j (by have := HL.out; omega)).2.1; omega)⟩⟩, by exact HK.out.alloc _⟩
          have f2 : decide ((P i j).k > 4) = false := by simp; omega
          by_cases hk3 : (P i j).c < 0
          · have f3 : decide ((P i j).c < 0) = true := by simpa using hk3
            go_wp2_with fail
            go_ret
            exact ⟨⟨false, rfl, ⟨fun h => (by cases h), fun h => (by have := ((h.2.2.2 i hlt).2 j (by have := HL.out; omega)).2.2.1; omega)⟩⟩, by exact HK.out.alloc _⟩
          have f3 : decide ((P i j).c < 0) = false := by simp; omega
          by_cases hk4 : size ≤ (P i j).c
          · have f4 : decide ((P i j).c ≥ size) = true := by simpa using hk4
            go_wp2_with fail
            go_ret
            exact ⟨⟨false, rfl, ⟨fun h => (by cases h), fun h => (by have := ((h.2.2.2 i hlt).2 j (by have := HL.out; omega)).2.2.2; omega)⟩⟩, by exact HK.out.alloc _⟩
          have f4 : decide ((P i j).c ≥ size) = false := by simp; omega
          go_wp2_with fail
          have HOP := Lib.hid (show opOk size (P i j) from ⟨by omega, by omega, by omega, by omega⟩)
          go_roundg (m - (j + 1))
          case measure => rw [HKJ.out]; omega
          case rel =>
            refine ⟨j + 1, by omega, rfl, by go_num, by exact HK.out.alloc _, ?_⟩
            intro l hl
            by_cases e : l = j
            · subst e; exact HOP.out
            · exact HPJ.out l (by omega)
        · have hdm : decide ((j : Int) < (m : Int)) = false := by simp; omega
          have hdm' : decide (j < m) = false := by simp; omega
          go_wp2_with fail
          go_roundg (n - (i + 1))
          case measure => rw [HKK.out]; omega
          case rel =>
            refine ⟨i + 1, by omega, rfl, by go_num, HK.out, ?_⟩
            intro l hl
            by_cases e : l = i
            · subst e; exact ⟨by have := HL.out; omega, fun t ht => HPJ.out t (by have := HL.out; omega)⟩
            · exact HP.out l (by omega)
    · have hd : decide ((i : Int) < (n : Int)) = false := by simp; omega
      have hd' : decide (i < n) = false := by simp; omega
      go_wp2_with fail
      go_ret
      exact ⟨⟨true, rfl, ⟨fun _ => ⟨by have := H1.out; omega, by have := H2.out; omega, by have := H3.out; omega, fun j hj => HP.out j (by omega)⟩, fun _ => rfl⟩⟩, HK.out⟩

set_option maxHeartbeats 4000000 in
set_option maxRecDepth 100000 in
theorem rright_walk (w : World) (size : Int) (v : Value) (n : Nat) (L : Nat → Nat) (vs : Nat → Value) (P : Nat → Nat → OpV) (h : ProgsAt w v n L vs P) :
    Calls Tryd.prog 23 #[.int .i64 size, v] w fun e w' => Tells (runOk size n L P) w e w' := by
  obtain ⟨p, cap, rfl, hn, hO, hC⟩ := h
  have HN := Lib.hid hn
  have HO := Lib.hid hO
  have HC := Lib.hid hC
  clear hn hO hC
  go_enter Tryd.func23, Tryd.ntmps23
  by_cases h1 : size < 1
  · have d1 : decide (size < 1) = true := by simpa using h1
    go_wp2_with fail
    go_ret
    exact ⟨⟨false, rfl, ⟨fun h => (by cases h), fun h => (by have := h.1; omega)⟩⟩, Kept.refl _ _⟩
  have d1 : decide (size < 1) = false := by simpa using h1
  by_cases h2 : 65536 < size
  · have d2 : decide (size > 65536) = true := by simpa using h2
    go_wp2_with fail
    go_ret
    exact ⟨⟨false, rfl, ⟨fun h => (by cases h), fun h => (by have := h.2.1; omega)⟩⟩, Kept.refl _ _⟩
  have d2 : decide (size > 65536) = false := by simp; omega
  by_cases h3 : 16 < n
  · have d3 : decide (n > 16) = true := by simpa using h3
    have d3' : decide ((n : Int) > 16) = true := by simp; omega
    go_wp2_with fail
    go_ret
    exact ⟨⟨false, rfl, ⟨fun h => (by cases h), fun h => (by have := h.2.2.1; omega)⟩⟩, Kept.refl _ _⟩
  have d3 : decide (n > 16) = false := by simp; omega
  have d3' : decide ((n : Int) > 16) = false := by simp; omega
  go_wp2_with fail
  clear d1 d2 d3 d3'
  have H1 := Lib.hid h1
  have H2 := Lib.hid h2
  have H3 := Lib.hid h3
  clear h1 h2
  go_loopg [5] n (fun k iv wr => ∃ i : Nat, i ≤ n ∧ k = n - i ∧ iv = .int .i64 i ∧ Kept [] w wr ∧ ∀ j, j < i → progOk size (L j) (P j))
  case atStart => exact ⟨0, Nat.zero_le _, rfl, rfl, Kept.refl _ _, fun j hj => by omega⟩
  case round =>
    obtain ⟨i, hi, hk, rfl, hK, hP⟩ := hrel
    have HKK := Lib.hid hk
    have HK := Lib.hid hK
    have HP := Lib.hid hP
    clear hk hK hP
    by_cases hlt : i < n
    · have hd : decide ((i : Int) < (n : Int)) = true := by simp; omega
      have hd' : decide (i < n) = true := by simp; omega
      obtain ⟨ab, off, rfl, hab, hcells⟩ := HC.out (by omega)
      have hci := hcells i hlt
      have HCI := Lib.hid hci
      have c0 := HK.out.cell hci (by simp)
      clear hci
      obtain ⟨q, qcap, hvs, hqn, hqr, hq⟩ := HO.out i hlt
      rw [hvs] at c0
      generalize hL : L i = m at *
      have HL := Lib.hid hL
      have HVS := Lib.hid hvs
      have HQ := Lib.hid hq
      have HQN := Lib.hid hqn
      clear hcells hL hvs hq hqr hqn
      by_cases hm : 65536 < m
      · have d1 : decide (m > 65536) = true := by simpa using hm
        have d1' : decide ((m : Int) > 65536) = true := by simp; omega
        go_wp2_with fail
        go_ret
        exact ⟨⟨false, rfl, ⟨fun h => (by cases h), fun h => (by have := (h.2.2.2 i hlt).1; have := HL.out; omega)⟩⟩, HK.out⟩
      have d1 : decide (m > 65536) = false := by simp; omega
      have d1' : decide ((m : Int) > 65536) = false := by simp; omega
      go_wp2_with fail
      clear d1 d1' c0
      go_loopg [6] m (fun k jv wr => ∃ j : Nat, j ≤ m ∧ k = m - j ∧ jv = .int .i64 j ∧ Kept [] w wr ∧ ∀ l, l < j → opOk size (P i l))
      case atStart => exact ⟨0, Nat.zero_le _, rfl, rfl, HK.out, fun j hj => by omega⟩
      case round =>
        clear HK
        obtain ⟨j, hj, hk, rfl, hK, hQ⟩ := hrel
        have HKJ := Lib.hid hk
        have HK := Lib.hid hK
        have HPJ := Lib.hid hQ
        clear hk hK hQ
        have c0 := HK.out.cell HCI.out (by simp)
        rw [HVS.out] at c0
        by_cases hjm : j < m
        · have hdm : decide ((j : Int) < (m : Int)) = true := by simp; omega
          have hdm' : decide (j < m) = true := by simp; omega
          obtain ⟨qb, qoff, rfl, hqb, hqc⟩ := HQ.out (by omega)
          obtain ⟨e0, e1, e2, e3⟩ := hqc j hjm
          have e0 := HK.out.cell e0 (by simp)
          have e1 := HK.out.cell e1 (by simp)
          have e2 := HK.out.cell e2 (by simp)
          have e3 := HK.out.cell e3 (by simp)
          clear hqc
          by_cases hk1 : (P i j).k < 1
          · have f1 : decide ((P i j).k < 1) = true := by simpa using hk1
            go_wp2_with fail
            go_ret
            exact ⟨⟨false, rfl, ⟨fun h => (by cases h), fun h => (by have := ((h.2.2.2 i hlt).2 j (by have := HL.out; omega)).1; omega)⟩⟩, by exact HK.out.alloc _⟩
          have f1 : decide ((P i j).k < 1) = false := by simp; omega
          by_cases hk2 : 4 < (P i j).k
          · have f2 : decide ((P i j).k > 4) = true := by simpa using hk2
            go_wp2_with fail
            go_ret
            exact ⟨⟨false, rfl, ⟨fun h => (by cases h), fun h => (by have := ((h.2.2.2 i hlt).2 j (by have := HL.out; omega)).2.1; omega)⟩⟩, by exact HK.out.alloc _⟩
          have f2 : decide ((P i j).k > 4) = false := by simp; omega
          by_cases hk3 : (P i j).c < 0
          · have f3 : decide ((P i j).c < 0) = true := by simpa using hk3
            go_wp2_with fail
            go_ret
            exact ⟨⟨false, rfl, ⟨fun h => (by cases h), fun h => (by have := ((h.2.2.2 i hlt).2 j (by have := HL.out; omega)).2.2.1; omega)⟩⟩, by exact HK.out.alloc _⟩
          have f3 : decide ((P i j).c < 0) = false := by simp; omega
          by_cases hk4 : size ≤ (P i j).c
          · have f4 : decide ((P i j).c ≥ size) = true := by simpa using hk4
            go_wp2_with fail
            go_ret
            exact ⟨⟨false, rfl, ⟨fun h => (by cases h), fun h => (by have := ((h.2.2.2 i hlt).2 j (by have := HL.out; omega)).2.2.2; omega)⟩⟩, by exact HK.out.alloc _⟩
          have f4 : decide ((P i j).c ≥ size) = false := by simp; omega
          go_wp2_with fail
          have HOP := Lib.hid (show opOk size (P i j) from ⟨by omega, by omega, by omega, by omega⟩)
          go_roundg (m - (j + 1))
          case measure => rw [HKJ.out]; omega
          case rel =>
            refine ⟨j + 1, by omega, rfl, by go_num, by exact HK.out.alloc _, ?_⟩
            intro l hl
            by_cases e : l = j
            · subst e; exact HOP.out
            · exact HPJ.out l (by omega)
        · have hdm : decide ((j : Int) < (m : Int)) = false := by simp; omega
          have hdm' : decide (j < m) = false := by simp; omega
          go_wp2_with fail
          go_roundg (n - (i + 1))
          case measure => rw [HKK.out]; omega
          case rel =>
            refine ⟨i + 1, by omega, rfl, by go_num, HK.out, ?_⟩
            intro l hl
            by_cases e : l = i
            · subst e; exact ⟨by have := HL.out; omega, fun t ht => HPJ.out t (by have := HL.out; omega)⟩
            · exact HP.out l (by omega)
    · have hd : decide ((i : Int) < (n : Int)) = false := by simp; omega
      have hd' : decide (i < n) = false := by simp; omega
      go_wp2_with fail
      go_ret
      exact ⟨⟨true, rfl, ⟨fun _ => ⟨by have := H1.out; omega, by have := H2.out; omega, by have := H3.out; omega, fun j hj => HP.out j (by omega)⟩, fun _ => rfl⟩⟩, HK.out⟩
end Go.Proofs.YtfipoadgfebibaaDoor
