/- The walk of New. -/
import Derived.Test.YtmldighidbfhhaaDoorHashStep
namespace Go.Proofs.YtmldighidbfhhaaDoor
open Go Go.RowKit
set_option linter.unusedVariables false

variable {o : List Nat} {w0 w : World} {b : Nat} {x : HtIx} {T : AHt}

/-- A new table. -/
def newHt (ab size n : Nat) : AHt := ⟨ab, size, 0, n, fun _ => 0, 0, fun _ => ⟨default, 0, 0, true⟩⟩
theorem newHt_bucket (ab size i : Nat) : (newHt ab size i).bucket = newHt ab size (i + 1) := by
  unfold newHt AHt.bucket
  simp
theorem newHt_used (ab size n : Nat) : (newHt ab size n).used = n := rfl
theorem newHt_rep (ab size : Nat) (hs : size ≤ 65536) : HtRep ⟨size, fun _ => none, 0⟩ ⟨fun _ => 0, fun _ => 0⟩ (newHt ab size 0) := by
  have no : ∀ {l : HLoc} {v : Int}, (newHt ab size 0).at_ l = some v → False := fun {l v} h => by cases l <;> simp [newHt, AHt.at_] at h
  refine ⟨rfl, hs, rfl, ⟨fun l v h => (no h).elim, fun l l' h _ _ => ?_, fun l v h => (no h).elim, ?_, fun l v h => (no h).elim⟩, fun l v h => (no h).elim⟩
  · obtain ⟨v, hv⟩ := Option.isSome_iff_exists.1 h
    exact (no hv).elim
  · show cnt (fun _ => none) size = 0
    have : ∀ n, cnt (fun _ => none) n = 0 := fun n => by
      induction n with
      | zero => rfl
      | succ n ih => unfold cnt; rw [ih]; rfl
    exact this _

theorem htp_moreHead {w5 : World} {v' : Value} {c : Nat} (ob : Obj) (h : Has o w0 w (HtP b x T))
    (happ : Appended (w.alloc ob) w5 3 1 x.hv v' (T.nB + 1) (flatN T.nB (headF x.C) ++ [.int .i64 (c : Nat)])) :
    w5.cell? ⟨b, 1, none⟩ = some x.hv ∧ w5.frozen? ⟨b, 1, none⟩ = false ∧ Has o w0 (w5.setCell ⟨b, 1, none⟩ v') (HtP b { x with hv := v', C := { x.C with h := fun j => if j = T.nB then c else x.C.h j } } T.bucket) := by
  obtain ⟨o2, h2, _, _, b2⟩ := h.right
  obtain ⟨o3, h3, _, _, b3⟩ := h2.left
  have h4 := Has.rowsMore ob h3 happ
  have h5 := b2 _ _ (b3 _ _ h4)
  obtain ⟨o6, h6, _, _, b6⟩ := h5.left
  obtain ⟨o7, h7, _, _, b7⟩ := h6.left
  obtain ⟨c1, z, hput⟩ := h7.blkAt (i := 1) (by omega)
  refine ⟨c1, z, ?_⟩
  have h8 := b6 _ _ (b7 _ _ (hput v'))
  have e1 : upd (htF T.ab x.hv x.ev) 1 v' = htF T.bucket.ab v' x.ev := funext fun i => by
    unfold upd htF
    by_cases e : i = 1
    · subst e; rfl
    · simp [e]; rfl
  have e2 : (fun d => if d = T.nB then [Value.int .i64 (c : Nat)] else headF x.C d) = headF { x.C with h := fun j => if j = T.nB then c else x.C.h j } := funext fun d => by
    unfold headF
    by_cases e : d = T.nB <;> simp [e]
  rw [e1, e2] at h8
  exact h8

theorem info_num : (Tryd.prog.info? 3).map (fun i => (i.zero, i.size, i.bytes)) = some (some (.int .i64 0), 1, 8) := by kernel_rfl
theorem Has.madeTable (w : World) (ab : Nat) : Has [] w (w.alloc (.cells #[.pointer (some ⟨ab, 0, none⟩), .slice none 0 0, .slice none 0 0] 65)) (.blk w.heap.size 3 65 (htF ab (.slice none 0 0) (.slice none 0 0))) :=
  Has.madeBlk _ _ _ 3 rfl (fun i hi => match i, hi with | 0, _ => rfl | 1, _ => rfl | 2, _ => rfl)

theorem new_start {ab size : Nat} (hs : size ≤ 65536) (h : Has o w0 w (.arena ab ⟨size, fun _ => none, 0⟩)) :
    Has o w0 (w.alloc (.cells #[.pointer (some ⟨ab, 0, none⟩), .slice none 0 0, .slice none 0 0] 65)) (.table w.heap.size (newHt ab size 0)) := by
  have h1 := (h.beside (Has.madeTable w ab)).swap
  have h2 := h1.beside ((Has.rowsNil _ 3 1 (headF ⟨fun _ => 0, fun _ => 0⟩)).beside (Has.rowsNil _ 73 3 (entF ⟨fun _ => 0, fun _ => 0⟩ (newHt ab size 0))))
  exact Has.htShut (x := ⟨.slice none 0 0, .slice none 0 0, ⟨size, fun _ => none, 0⟩, ⟨fun _ => 0, fun _ => 0⟩⟩) (newHt_rep ab size hs) h2

set_option maxHeartbeats 4000000 in
set_option maxRecDepth 100000 in
theorem new_table {ab size n : Nat} (hs : size ≤ 65536) (h1 : 1 ≤ n) (h2 : n ≤ 256) (h3 : n ≤ size) (h : Has o w0 w (.arena ab ⟨size, fun _ => none, 0⟩)) (hT : TabAt w0) (ho : 0 ∉ o) :
    Calls Tryd.prog 18 #[.pointer (some ⟨ab, 0, none⟩), .int .i64 n] w fun e w' => ∃ b, e = .returned (.tuple #[.pointer (some ⟨b, 0, none⟩), .int .i64 0]) ∧ Has o w0 w' (.table b (newHt ab size n)) := by
  have HX := Lib.hid (new_start hs h)
  have HT := Lib.hid hT
  have HO := Lib.hid ho
  obtain ⟨i0, hi0, hz0, hz1, hz2⟩ := info_parts info_num
  have d1 : decide ((n : Int) < 1) = false := by simp; omega
  have d2 : decide ((n : Int) > 256) = false := by simp; omega
  have d2' : decide (256 < (n : Int)) = false := by simp; omega
  clear h hT ho
  go_enter Tryd.func18, Tryd.ntmps18
  go_wp2_with fail
  generalize hbb : w.heap.size = tb at *
  go_loopg [23] n (fun k iv wr => ∃ i : Nat, i ≤ n ∧ k = n - i ∧ iv = .int .i64 i ∧ Has o w0 wr (.table tb (newHt ab size i)))
  case atStart => exact ⟨0, Nat.zero_le _, rfl, rfl, HX.out⟩
  case round =>
    clear HX
    obtain ⟨i, hi, hk, rfl, hX⟩ := hrel
    have HKK := Lib.hid hk
    by_cases hlt : i < n
    · have hdd : decide ((i : Int) < (n : Int)) = true := by simp; omega
      have hdd' : decide (i < n) = true := by simp; omega
      obtain ⟨x, hr, h4⟩ := hX.htOpen
      have HA := Lib.hid (ht_alloc h4 hr HT.out HO.out (by show i < size; omega))
      have HR := Lib.hid hr
      clear hk hX h4 hr
      go_wp2_with fail
      refine HA.out.mono ?_
      rintro e w2 ⟨c, rfl, hc, hg, h5⟩
      obtain ⟨c0, c1, c2⟩ := HtP.fields h5
      obtain ⟨o6, h6⟩ := HtP.heads h5
      have HROW := Lib.hid h6.rowsOwn
      have HH := Lib.hid h5
      have HRB := Lib.hid (HR.out.bucket hc hg)
      clear h5 h6 hc hg HA
      go_wp2_with (at_builtin; refine wpList_append_new rfl (.tmp 50) (.tmp 52) 34 rfl 3 i0 (.int .i64 0) 1 8 Tryd.underlying34 hi0 hz0 hz1 hz2 rfl (by decide) _ _ _ rfl (HROW.out.alloc _) ⟨_, 0, none⟩ 1 1 [.int .i64 (c : Nat)] rfl rfl (cell_one _ _ _ _ (by simp)) (by simp [Value.oneCell']) (by simp only [maxLen, newHt]; omega) (by simp only [newHt]; omega) ?_)
      intro v' w5 happ
      obtain ⟨gv, vcap, rfl⟩ : ∃ gv vcap, v' = .slice (some ⟨gv, 0, none⟩) ((newHt ab size i).nB + 1) vcap := by
        rcases rowN_open happ.row with ⟨_, h0⟩ | ⟨gv, vc, e, _⟩
        · omega
        · exact ⟨gv, vc, e⟩
      obtain ⟨y1, z1, hP⟩ := htp_moreHead _ HH.out happ
      have HP := Lib.hid (Has.htShut (x := { x with hv := .slice (some ⟨gv, 0, none⟩) ((newHt ab size i).nB + 1) vcap, S := x.S.put c 0, C := { x.C with h := fun j => if j = (newHt ab size i).nB then c else x.C.h j } }) HRB.out hP)
      clear hP happ HH HROW
      go_wp2_with fail
      go_roundg (n - (i + 1))
      case measure => rw [HKK.out]; omega
      case rel => exact ⟨i + 1, by omega, rfl, by go_num, by rw [← newHt_bucket]; exact HP.out⟩
    · have hdd : decide ((i : Int) < (n : Int)) = false := by simp; omega
      have hdd' : decide (i < n) = false := by simp; omega
      obtain rfl : i = n := by omega
      have HX := Lib.hid hX
      clear hk hX
      go_wp2_with fail
      go_ret2
      exact ⟨_, rfl, HX.out⟩

set_option maxHeartbeats 1000000 in
set_option maxRecDepth 100000 in
theorem new_no (w : World) (p : Addr) (n : Int) (h : n < 1 ∨ 256 < n) :
    Calls Tryd.prog 18 #[.pointer (some p), .int .i64 n] w fun e w' => e = .returned (.tuple #[.pointer none, .int .i64 2]) ∧ w' = w := by
  by_cases h1 : n < 1
  · have d1 : decide (n < 1) = true := by simpa using h1
    clear h
    go_enter Tryd.func18, Tryd.ntmps18
    go_wp2_with fail
    go_ret2
    exact ⟨rfl, rfl⟩
  · have d1 : decide (n < 1) = false := by simpa using h1
    have d2 : decide (n > 256) = true := by simp; omega
    have d2' : decide (256 < n) = true := by simp; omega
    clear h
    go_enter Tryd.func18, Tryd.ntmps18
    go_wp2_with fail
    go_ret2
    exact ⟨rfl, rfl⟩
end Go.Proofs.YtmldighidbfhhaaDoor
