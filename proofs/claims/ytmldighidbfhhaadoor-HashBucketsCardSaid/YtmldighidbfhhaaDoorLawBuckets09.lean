/- The walk of HashBuckets: true at all numbers and keys, and nothing that was there has changed. -/
import Derived.Test.YtmldighidbfhhaaDoorHashShown
namespace Go.Proofs.YtmldighidbfhhaaDoor
open Go Go.RowKit
set_option linter.unusedVariables false

theorem int_range {a : Int} (h : (Lit.int .i64 a).wf = true) : -9223372036854775808 ≤ a ∧ a < 9223372036854775808 := by
  simp only [Lit.wf, Bool.and_eq_true, decide_eq_true_eq] at h
  have e1 : IntKind.i64.min = -9223372036854775808 := by decide
  have e2 : IntKind.i64.max = 9223372036854775807 := by decide
  omega

set_option maxHeartbeats 2000000 in
set_option maxRecDepth 100000 in
theorem made_ok (w w1 : World) (hT : TabAt w) (k : Kept [] w w1) (n : Nat) (h1 : 1 ≤ n) (h2 : n ≤ 256) :
    Calls Tryd.prog 8 #[.int .i64 400, .int .i64 n] w1 fun e w' => ∃ ab b, e = .returned (.tuple #[.pointer (some ⟨ab, 0, none⟩), .pointer (some ⟨b, 0, none⟩), .bool true]) ∧ Has [] w w' (.table b (newHt ab 400 n)) := by
  have HT := Lib.hid hT
  have HK := Lib.hid k
  clear hT k
  go_enter Tryd.func8, Tryd.ntmps8
  go_wp2_with fail
  refine (new_ar w w1 HK.out 400 (by omega) (by omega)).mono ?_
  rintro e w2 ⟨ab, rfl, hA⟩
  have HN := Lib.hid (new_table (n := n) (by omega) h1 h2 (by omega) hA HT.out tab_nil)
  clear hA
  go_wp2_with fail
  refine HN.out.mono ?_
  rintro e w3 ⟨b, rfl, hX⟩
  have HX := Lib.hid hX
  clear hX
  go_wp2_with fail
  go_ret3
  exact ⟨ab, b, rfl, HX.out⟩
set_option maxHeartbeats 2000000 in
set_option maxRecDepth 100000 in
theorem made_no (w w1 : World) (k : Kept [] w w1) (n : Int) (h : n < 1 ∨ 256 < n) :
    Calls Tryd.prog 8 #[.int .i64 400, .int .i64 n] w1 fun e w' => ∃ ab, e = .returned (.tuple #[.pointer (some ⟨ab, 0, none⟩), .pointer none, .bool false]) ∧ Kept [] w w' := by
  have HK := Lib.hid k
  clear k
  have HN := Lib.hid (fun W p => new_no W p n h)
  clear h
  go_enter Tryd.func8, Tryd.ntmps8
  go_wp2_with fail
  refine (new_ar w w1 HK.out 400 (by omega) (by omega)).mono ?_
  rintro e w2 ⟨ab, rfl, hA⟩
  have HK2 := Lib.hid hA.keeps
  clear hA
  go_wp2_with fail
  refine (HN.out _ _).mono ?_
  rintro e w3 ⟨rfl, rfl⟩
  go_wp2_with fail
  go_ret3
  exact ⟨ab, rfl, HK2.out⟩

set_option maxHeartbeats 1000000 in
set_option maxRecDepth 100000 in
theorem lkey_walk (w : World) (s : ByteArray) : Calls Tryd.prog 10 #[.string s] w fun e w' => e = .returned (.bool (keyB s)) ∧ w' = w := by
  by_cases h0 : 1 ≤ s.size
  · have d1 : decide ((s.size : Int) ≥ 1) = true := by simp; omega
    have d1' : decide (1 ≤ (s.size : Int)) = true := by simp; omega
    have d4 : decide ((s.size : Int) ≤ 16) = keyB s := by
      unfold keyB
      by_cases h : s.size ≤ 16 <;> simp [h] <;> omega
    go_enter Tryd.func10, Tryd.ntmps10
    go_wp2_with fail
    go_ret
    exact ⟨rfl, rfl⟩
  · have d1 : decide ((s.size : Int) ≥ 1) = false := by simp; omega
    have d1' : decide (1 ≤ (s.size : Int)) = false := by simp; omega
    have hk : keyB s = false := by unfold keyB; simp; omega
    rw [hk]
    go_enter Tryd.func10, Tryd.ntmps10
    go_wp2_with fail
    go_ret
    exact ⟨rfl, rfl⟩

/-- The document's sum over a text's bytes, just laid. -/
theorem rcrc_key (w k : World) (s : ByteArray) (cap : Nat) (fr : Nat × Nat) (hs : s.size ≤ 1000000) (hk : Kept [] (w.alloc (.cells (bytesRow s cap) 5 fr)) k) :
    Calls Tryd.prog 11 #[.slice (some ⟨w.heap.size, 0, none⟩) s.size cap] k fun e w' => e = .returned (.int .u32 (crcOf s)) ∧ w' = k := by
  refine rcrc_walk k s.size cap (some ⟨w.heap.size, 0, none⟩) _ hs fun h0 => ⟨_, _, rfl, fun i hi => ⟨?_, Int.natCast_nonneg _, ?_⟩⟩
  · rw [Nat.zero_add]
    refine hk.cell ?_ (by simp)
    rw [World.cell?_alloc_mark]
    exact bytesRow_get s cap i hi
  · have := (s.data.getD i 0).toNat_lt
    omega

set_option maxHeartbeats 4000000 in
set_option maxRecDepth 100000 in
theorem buckets_law (w : World) (hT : TabAt w) (n : Int) (s : ByteArray) (h0 : -9223372036854775808 ≤ n) (h1 : n < 9223372036854775808) :
    Calls Tryd.prog 3 #[.int .i64 n, .string s] w fun e w' => e = .returned (.bool true) ∧ Kept [] w w' := by
  have HT := Lib.hid hT
  clear hT
  by_cases hn : n < 1 ∨ 256 < n
  · have HN := Lib.hid (fun W hW => made_no w W hW n hn)
    by_cases h2 : n < 1
    · have d1 : decide (n < 1) = true := by simpa using h2
      clear hn
      go_enter Tryd.func3, Tryd.ntmps3
      go_wp2_with fail
      refine (shown_calls w HT.out).mono ?_
      rintro e w1 ⟨rfl, hk⟩
      have HM := Lib.hid (HN.out _ hk)
      clear hk
      go_wp2_with fail
      refine HM.out.mono ?_
      rintro e w2 ⟨ab, rfl, hk⟩
      have HK := Lib.hid hk
      clear hk
      go_wp2_with fail
      go_ret
      exact ⟨rfl, HK.out⟩
    · have d1 : decide (n < 1) = false := by simpa using h2
      have d2 : decide (n > 256) = true := by simp; omega
      have d2' : decide (256 < n) = true := by simp; omega
      clear hn
      go_enter Tryd.func3, Tryd.ntmps3
      go_wp2_with fail
      refine (shown_calls w HT.out).mono ?_
      rintro e w1 ⟨rfl, hk⟩
      have HM := Lib.hid (HN.out _ hk)
      clear hk
      go_wp2_with fail
      refine HM.out.mono ?_
      rintro e w2 ⟨ab, rfl, hk⟩
      have HK := Lib.hid hk
      clear hk
      go_wp2_with fail
      go_ret
      exact ⟨rfl, HK.out⟩
  · obtain ⟨m, rfl⟩ := Int.eq_ofNat_of_zero_le (a := n) (by omega)
    have hm1 : 1 ≤ m := by omega
    have hm2 : m ≤ 256 := by omega
    clear hn
    have HN := Lib.hid (fun W hW => made_ok w W HT.out hW m hm1 hm2)
    have HLK := Lib.hid (fun W => lkey_walk W s)
    cases hk0 : keyB s
    · rw [hk0] at HLK
      have HB := Lib.hid (fun W (b : Nat) => bucket_nokey (b := b) W s hk0)
      go_enter Tryd.func3, Tryd.ntmps3
      go_wp2_with fail
      refine (shown_calls w HT.out).mono ?_
      rintro e w1 ⟨rfl, hk⟩
      have HM := Lib.hid (HN.out _ hk)
      clear hk
      go_wp2_with fail
      refine HM.out.mono ?_
      rintro e w2 ⟨ab, b, rfl, hX⟩
      have HK := Lib.hid hX.keeps
      clear hX
      go_wp2_with fail
      refine (HB.out _ _).mono ?_
      rintro e w3 ⟨rfl, rfl⟩
      go_wp2_with fail
      refine (HLK.out _).mono ?_
      rintro e w4 ⟨rfl, rfl⟩
      go_wp2_with fail
      go_ret
      exact ⟨rfl, HK.out⟩
    · rw [hk0] at HLK
      have hsz : s.size ≤ 16 := by unfold keyB at hk0; simp at hk0; omega
      have hw32 : IntKind.u32.wrap (m : Int) = m := wrap32 (by omega) (by omega)
      obtain ⟨hr0, hr1⟩ := crcOf_range s
      have hb0 : (m : Int) ≠ 0 := by omega
      have hb00 : m ≠ 0 := by omega
      have hb1 : ((m : Int) == 0) = false := by simpa using hb00
      have hb2 : decide ((m : Int) = 0) = false := by simpa using hb00
      have hm0 : (crcOf s).tmod (m : Int) = crcOf s % m := Int.tmod_eq_emod_of_nonneg hr0
      have hm3 : 0 ≤ crcOf s % (m : Int) := Int.emod_nonneg _ hb0
      have hm4 : crcOf s % (m : Int) < m := Int.emod_lt_of_pos _ (by omega)
      have hm5 : IntKind.u32.wrap (crcOf s % (m : Int)) = crcOf s % (m : Int) := wrap32 hm3 (by omega)
      have hm6 : IntKind.i64.wrap (crcOf s % (m : Int)) = crcOf s % (m : Int) := by
        unfold IntKind.wrap; simp [IntKind.bits, IntKind.signed]; omega
      have hcv : ∀ w : World, (convert 9 31 (.string s)).run Tryd.prog w = .ok (.slice (some ⟨w.heap.size, 0, none⟩) s.size (grownCap w s.size 0 5))
          (w.drew.alloc (.cells (bytesRow s (grownCap w s.size 0 5)) 5 ((bytesRow s (grownCap w s.size 0 5)).size, (bytesRow s (grownCap w s.size 0 5)).size + 1))) :=
        fun w => run_bytes_of_string w _ _ _ s Tryd.underlying9 Tryd.underlying31 Tryd.underlying5
      have HKB := Lib.hid hk0
      clear hk0
      go_enter Tryd.func3, Tryd.ntmps3
      go_wp2_with fail
      refine (shown_calls w HT.out).mono ?_
      rintro e w1 ⟨rfl, hk⟩
      have HM := Lib.hid (HN.out _ hk)
      clear hk
      go_wp2_with fail
      refine HM.out.mono ?_
      rintro e w2 ⟨ab, b, rfl, hX⟩
      obtain ⟨x, hr, h4⟩ := hX.htOpen
      have HB := Lib.hid (show Calls Tryd.prog 9 #[.pointer (some ⟨b, 0, none⟩), .string s] w2 fun e w' => e = .returned (.int .i64 (crcOf s % m)) ∧ Kept [] w2 w' from bucket_key h4 s HKB.out (by show 0 < m; omega) hm2)
      have HK := Lib.hid hX.keeps
      clear hX h4 hr
      go_wp2_with fail
      refine HB.out.mono ?_
      rintro e w3 ⟨rfl, hk3⟩
      have HK3 := Lib.hid (HK.out.tr hk3)
      clear hk3
      go_wp2_with fail
      refine (HLK.out _).mono ?_
      rintro e w4 ⟨rfl, rfl⟩
      have HC := Lib.hid (fun (k : World) (hk : Kept [] (w4.alloc (.cells (bytesRow s (grownCap w4 s.size 0 5)) 5 ((bytesRow s (grownCap w4 s.size 0 5)).size, (bytesRow s (grownCap w4 s.size 0 5)).size + 1))) k) => rcrc_key w4 k s (grownCap w4 s.size 0 5) _ (by omega) hk)
      go_wp2_with fail
      refine (HC.out _ ((Kept.refl [] _).drew)).mono ?_
      rintro e w5 ⟨rfl, rfl⟩
      go_wp2_with fail
      go_ret
      exact ⟨rfl, HK3.out.tr (((Kept.refl [] _).alloc _).drew)⟩
end Go.Proofs.YtmldighidbfhhaaDoor
