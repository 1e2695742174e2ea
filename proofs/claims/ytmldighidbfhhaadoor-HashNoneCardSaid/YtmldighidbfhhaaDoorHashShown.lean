/- The walk of the statements' own 'shown', and of 'made'. -/
import Derived.Test.YtmldighidbfhhaaDoorHashLay
namespace Go.Proofs.YtmldighidbfhhaaDoor
open Go Go.RowKit
set_option linter.unusedVariables false

variable {o : List Nat} {w0 w : World} {b ob : Nat} {x : HtIx} {T : AHt}

/-- So many steps more: what stepping to the end does. -/
def Runs (ob : Nat) (R : Nat → World → Prop) (F : World → Prop) : Prop :=
  (∀ n w, R (n + 1) w → Calls Tryd.prog 21 #[.pointer (some ⟨ob, 0, none⟩)] w fun e w' => e = .returned (.bool false) ∧ R n w') ∧
  (∀ w, R 0 w → Calls Tryd.prog 21 #[.pointer (some ⟨ob, 0, none⟩)] w fun e w' => e = .returned (.bool true) ∧ F w')

set_option maxHeartbeats 1000000 in
set_option maxRecDepth 100000 in
theorem done_walk {R : Nat → World → Prop} {F : World → Prop} (hR : Runs ob R F) (n : Nat) (most : Int) (hm : (n : Int) + 1 ≤ most) (hm9 : most ≤ 1000000000000) (h : R n w) :
    Calls Tryd.prog 23 #[.pointer (some ⟨ob, 0, none⟩), .int .i64 most] w fun e w' => e = .returned (.int .i64 ((n : Int) + 1)) ∧ F w' := by
  have HR := Lib.hid hR
  have H := Lib.hid h
  clear hR h
  go_enter Tryd.func23, Tryd.ntmps23
  go_wp2_with fail
  go_loopg [5] n (fun k iv wr => ∃ i : Nat, i ≤ n ∧ k = n - i ∧ iv = .int .i64 ((i : Int) + 1) ∧ R (n - i) wr)
  case atStart => exact ⟨0, Nat.zero_le _, rfl, rfl, H.out⟩
  case round =>
    clear H
    obtain ⟨i, hi, hk, rfl, hX⟩ := hrel
    have HKK := Lib.hid hk
    have d1 : decide ((i : Int) + 1 ≤ most) = true := by simp; omega
    by_cases hlt : i < n
    · have hx : R (n - (i + 1) + 1) wr := by rw [show n - (i + 1) + 1 = n - i by omega]; exact hX
      have HS := Lib.hid (HR.out.1 _ _ hx)
      clear hk hX hx
      go_wp2_with fail
      refine HS.out.mono ?_
      rintro e w2 ⟨rfl, hX⟩
      have HX := Lib.hid hX
      clear hX
      go_wp2_with fail
      go_roundg (n - (i + 1))
      case measure => rw [HKK.out]; omega
      case rel => exact ⟨i + 1, by omega, rfl, by go_num, HX.out⟩
    · obtain rfl : i = n := by omega
      have hx : R 0 wr := by rw [show i - i = 0 by omega] at hX; exact hX
      have HS := Lib.hid (HR.out.2 _ hx)
      clear hk hX hx
      go_wp2_with fail
      refine HS.out.mono ?_
      rintro e w2 ⟨rfl, hX⟩
      have HX := Lib.hid hX
      clear hX
      go_wp2_with fail
      go_ret
      exact ⟨rfl, HX.out⟩


/-- The text "a". -/
def txtA : ByteArray := ⟨#[97]⟩
theorem keyA : keyB txtA = true := by decide +kernel

set_option maxHeartbeats 4000000 in
set_option maxRecDepth 100000 in
theorem shown_calls (w : World) (hT : TabAt w) :
    Calls Tryd.prog 7 #[] w fun e w' => e = .returned (.bool true) ∧ Kept [] w w' := by
  have HT := Lib.hid hT
  clear hT
  go_enter Tryd.func7, Tryd.ntmps7
  go_wp2_with fail
  refine (new_ar w w (Kept.refl _ _) 8 (by omega) (by omega)).mono ?_
  rintro e w1 ⟨ab, rfl, hA⟩
  have HA := Lib.hid hA
  clear hA
  go_wp2_with fail
  refine (new_table (n := 2) (by omega) (by omega) (by omega) (by omega) HA.out HT.out tab_nil).mono ?_
  rintro e w2 ⟨b, rfl, hX⟩
  have HX := Lib.hid hX
  clear hX HA
  go_wp2_with fail
  refine (insert_walk w2 (some ⟨b, 0, none⟩) txtA 7).mono ?_
  rintro e w3 ⟨ob, rfl, hO⟩
  obtain ⟨x, hr, h2⟩ := HX.out.htOpen
  have h3 : Has [] w w3 (HtOp b x (newHt ab 8 2) ob (.new txtA 7 true)) := h2.beside hO
  have hruns : Runs ob (fun n W => (n = 2 ∧ ∃ x', HtRep x'.S x'.C (newHt ab 8 2) ∧ Has [] w W (HtOp b x' (newHt ab 8 2) ob (.new txtA 7 true))) ∨
      (n = 1 ∧ ∃ x', HtRep x'.S x'.C ((newHt ab 8 2).step.add txtA 7) ∧ Has [] w W (HtOp b x' ((newHt ab 8 2).step.add txtA 7) ob { AHop.new txtA 7 true with head := 0, cur := 0, own := 1, next := 2 })) ∨
      (n = 0 ∧ ∃ x', HtRep x'.S x'.C (((newHt ab 8 2).step.add txtA 7).step.set (.next 0) 0) ∧ Has [] w W (HtOp b x' (((newHt ab 8 2).step.add txtA 7).step.set (.next 0) 0) ob { AHop.new txtA 7 true with head := 0, cur := 0, own := 1, next := 3 })))
      (fun W => ∃ x' T', Has [] w W (HtOp b x' T' ob { AHop.new txtA 7 true with head := 0, cur := 0, own := 1, next := 4 })) := by
    refine ⟨fun n W h => ?_, fun W h => ?_⟩
    · rcases h with ⟨hn, x', hr', h'⟩ | ⟨hn, x', hr', h'⟩ | ⟨hn, _⟩
      · obtain rfl : n = 1 := by omega
        refine (step_first h' hr' HT.out tab_nil keyA (by show 0 < 2; omega) (by show 2 ≤ 256; omega) (by show 0 ≤ 65536; omega) rfl rfl rfl (by show 2 < 8; omega) rfl).mono ?_
        rintro e w' ⟨rfl, x2, hr2, h2⟩
        exact ⟨rfl, .inr (.inl ⟨rfl, x2, hr2, h2⟩)⟩
      · obtain rfl : n = 0 := by omega
        have hat : ((newHt ab 8 2).step.add txtA 7).at_ (.next 0) = some 0 := by rw [AHt.at_add]; rfl
        refine (step_lay h' hr' keyA (by show 0 < 2; omega) (by show 2 ≤ 256; omega) rfl 0 0 rfl (by show 0 < 1; omega) hat).mono ?_
        rintro e w' ⟨rfl, h2⟩
        exact ⟨rfl, .inr (.inr ⟨rfl, _, hr'.step.put (l := .next 0) (u := 0) (v := 0) hat (by omega) (by omega) (by show ((1 : Nat) : Int) < _; omega), h2⟩)⟩
      · omega
    · rcases h with ⟨hn, _⟩ | ⟨hn, _⟩ | ⟨_, x', hr', h'⟩
      · omega
      · omega
      · refine (step_swap h' hr' keyA (by show 0 < 2; omega) (by show 2 ≤ 256; omega) rfl rfl).mono ?_
        rintro e w' ⟨rfl, h2⟩
        exact ⟨rfl, _, _, h2⟩
  have HD := Lib.hid (done_walk hruns 2 8 (by omega) (by omega) (.inl ⟨rfl, x, hr, h3⟩))
  clear hruns h2 h3 hr hO HX
  go_wp2_with fail
  refine HD.out.mono ?_
  rintro e w5 ⟨rfl, x', T', hX⟩
  obtain ⟨_, h6, _⟩ := ho_op hX
  have HG := Lib.hid (ref_over h6 rfl)
  have HK := Lib.hid hX.keeps
  clear hX HD h6
  go_wp2_with fail
  refine HG.out.mono ?_
  rintro e w6 ⟨rfl, hk6⟩
  have HK6 := Lib.hid (HK.out.tr hk6)
  clear hk6
  go_wp2_with fail
  go_ret
  exact ⟨rfl, HK6.out⟩
end Go.Proofs.YtmldighidbfhhaaDoor
