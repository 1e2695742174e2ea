/- The document's example, walked. -/
import Derived.Test.YtbankfdgoolbdaaDkIn
import Derived.Laws.IdiomStrings
namespace Go.Proofs.Ytbankfdgoolbdaa
open Go Go.RowKit Go.Lib
set_option linter.unusedVariables false
variable {w : World} {v : Value} {bs : List UInt8}

/-- '[]byte("..")' of a constant: a new row, marked. -/
theorem conv_mark (w : World) (C : Array Value) : (convert 27 27 (.slice (some ⟨w.heap.size, 0, none⟩) C.size C.size)).run Try.prog (w.alloc (.cells C 5)) = .ok (.slice (some ⟨w.heap.size, 0, none⟩) C.size C.size) (w.alloc (.cells C 5 (C.size, C.size + 1))) := by
  have hsh : (w.alloc (.cells C 5)).shape? w.heap.size = some (5, C.size) := by
    have : (w.alloc (.cells C 5)).heap[w.heap.size]? = some (.cells C 5) := by
      show (w.heap.push (.cells C 5))[w.heap.size]? = _
      simp
    unfold World.shape?
    rw [this]
  have hfr : ∀ n : Nat, (w.alloc (.cells C 5)).freeze ⟨w.heap.size, n, none⟩ 1 = w.alloc (.cells C 5 (n, n + 1)) := fun n => by
    have hm : ∀ (a : Array Obj) (x : Obj) (f : Obj → Obj), (a.push x).modify a.size f = a.push (f x) := by
      intro a x f
      apply Array.ext
      · simp
      · intro i h1 h2
        simp only [Array.getElem_modify, Array.getElem_push]
        by_cases h : a.size = i
        · subst h
          simp
        · have hi : i < a.size := by simp at h1; omega
          simp [h, hi]
    unfold World.freeze
    rw [if_neg (by decide)]
    show ({ w.alloc (.cells C 5) with heap := (w.heap.push (.cells C 5)).modify w.heap.size _ } : World) = _
    rw [hm]
    rfl
  simp [convert, run_underlying Try.underlying27, run_underlying Try.underlying5, markStringish, hsh]
  exact hfr _

theorem conv_strX (h : BytesX w v bs) : (convert 27 9 v).run Try.prog w = .ok (.string ⟨bs.toArray⟩) w := by
  obtain ⟨p, c, rfl, h3, h4⟩ := h.out
  cases p with
  | none =>
    obtain ⟨h5, rfl⟩ := h3 rfl
    obtain rfl : bs = [] := List.eq_nil_of_length_eq_zero h5
    kernel_rfl
  | some x =>
    exact run_convert_bytes_back w _ _ _ x c bs Try.underlying27 Try.underlying5 Try.underlying9 fun j hj => h4 x rfl j _ (by
      unfold bytesV; rw [List.getElem?_map, List.getElem?_eq_getElem hj]; rfl)

theorem conv_str (h : BytesAt w v bs) : (convert 27 9 v).run Try.prog w = .ok (.string ⟨bs.toArray⟩) w := conv_strX h.x

theorem bytes_none (w : World) : BytesAt w (.slice none 0 0) [] := ⟨none, 0, rfl, by simp, fun _ => ⟨rfl, rfl⟩, fun x hx => by cases hx⟩

def nmA : ByteArray := ⟨#[97]⟩
def nmAB : ByteArray := ⟨#[97, 32, 98]⟩
def nmQ : ByteArray := ⟨#[113]⟩
def ex1 : Int × ADk := ADk.new.append nmA.data.toList [120, 121]
def ex2 : ADk := ex1.2.crash 1 1 1
def ex3 : ADk := ex1.2.crash 9 0 0
def ex4 : Int × ADk := ex1.2.append nmAB.data.toList []
def ex5 : Int × ADk := ex4.2.sync nmQ.data.toList
theorem ex_all : ex1.1 = 0 ∧ ex1.2.read nmA.data.toList = ([120, 121], 0) ∧ ex2.read nmA.data.toList = ([135], 0) ∧ ex3.names = [] ∧ ex1.2.ops = 1 ∧ ex4.1 = 20 ∧ ex5.1 = 21 := by decide +kernel

set_option maxHeartbeats 4000000 in
set_option maxRecDepth 100000 in
theorem shown_walk (w : World) :
    Calls Try.prog 8 #[] w fun e w' => e = .returned (.bool true) ∧ Kept [] w w' := by
  obtain ⟨x1, x2, x3, x4, x5, x6, x7⟩ := ex_all
  go_enter Try.func8, Try.ntmps8
  go_wp2_with fail
  refine (new_walk _).mono ?_
  rintro e w1 ⟨db, rfl, _, h1⟩
  have hr := conv_mark w1 #[Value.int IntKind.u8 120, Value.int IntKind.u8 121]
  obtain ⟨o1, h2, hlt, back⟩ := h1.call
  have k1 : Kept [] w1 (w1.alloc (.cells #[Value.int IntKind.u8 120, Value.int IntKind.u8 121] 5 (2, 3))) := (Kept.refl _ _).alloc _
  have hb1 : BytesAt (w1.alloc (.cells #[Value.int IntKind.u8 120, Value.int IntKind.u8 121] 5 (2, 3))) (.slice (some ⟨w1.heap.size, 0, none⟩) 2 2) [120, 121] :=
    ⟨_, 2, rfl, by decide, (fun e => by cases e), fun x hx => by
      cases hx
      refine ⟨rfl, fun j u hj => ?_⟩
      rw [addr0, World.cell?_alloc_mark, ← Array.getElem?_toList]
      exact hj⟩
  have HA := Lib.hid ((append_walk (h2.onto k1) nmA _ _ fun w' k => (hb1.kept k fun y i s e hx => by
      cases e
      have := hlt _ hx
      simp at this).x).mono (R' := fun e w' => e = .returned (.int .i64 0) ∧ Has [] w w' (Dk db ex1.2)) (by
    rintro e w' ⟨rfl, h'⟩
    refine ⟨?_, back _ _ (h'.from k1)⟩
    rw [← x1]; rfl))
  clear h1 h2 back hlt k1 hb1
  simp only [List.size_toArray, List.length_cons, List.length_nil, Nat.reduceAdd] at hr
  unfold ptr at HA ⊢
  go_wp2_with fail
  refine HA.out.mono ?_
  rintro e w2 ⟨rfl, h2⟩
  have HR := Lib.hid ((read_walk h2 nmA).mono (R' := fun e w' => ∃ v, e = .returned (.tuple #[v, .int .i64 0]) ∧ Has [] w w' ((Dk db ex1.2).sep (.row 5 1 v ([120, 121] : List UInt8).length (bytesV [120, 121])))) (by
    rw [x2]
    rintro e w' ⟨v, rfl, h'⟩
    exact ⟨v, rfl, h2.beside h'⟩))
  clear h2 HA hr
  unfold ptr at HR
  go_wp2_with fail
  refine HR.out.mono ?_
  rintro e w3 ⟨vb, rfl, h3⟩
  have HC := Lib.hid ((crash_walk h3.fst 1 1 1).mono (R' := fun e w' => ∃ db2, e = .returned (.pointer (some ⟨db2, 0, none⟩)) ∧ Has [] w w' (((Dk db ex1.2).sep (.row 5 1 vb ([120, 121] : List UInt8).length (bytesV [120, 121]))).sep (Dk db2 ex2))) (by
    rintro e w' ⟨db2, rfl, h'⟩
    exact ⟨db2, rfl, h3.beside h'⟩))
  clear h3 HR
  unfold ptr at HC
  go_wp2_with fail
  refine HC.out.mono ?_
  rintro e w4 ⟨db2, rfl, h4⟩
  have HR := Lib.hid ((read_walk h4.swap.fst nmA).mono (R' := fun e w' => ∃ v, e = .returned (.tuple #[v, .int .i64 0]) ∧ Has [] w w' (((Dk db ex1.2).sep (.row 5 1 vb ([120, 121] : List UInt8).length (bytesV [120, 121]))).sep (.row 5 1 v ([135] : List UInt8).length (bytesV [135])))) (by
    rw [x3]
    rintro e w' ⟨v, rfl, h'⟩
    exact ⟨v, rfl, h4.fst.beside h'⟩))
  clear h4 HC
  unfold ptr at HR
  go_wp2_with fail
  refine HR.out.mono ?_
  rintro e w5 ⟨vt, rfl, h5⟩
  have HC := Lib.hid ((crash_walk h5.fst.fst 9 0 0).mono (R' := fun e w' => ∃ db2, e = .returned (.pointer (some ⟨db2, 0, none⟩)) ∧ Has [] w w' ((((Dk db ex1.2).sep (.row 5 1 vb ([120, 121] : List UInt8).length (bytesV [120, 121]))).sep (.row 5 1 vt ([135] : List UInt8).length (bytesV [135]))).sep (Dk db2 ex3))) (by
    rintro e w' ⟨db2, rfl, h'⟩
    exact ⟨db2, rfl, h5.beside h'⟩))
  clear h5 HR
  unfold ptr at HC
  go_wp2_with fail
  refine HC.out.mono ?_
  rintro e w6 ⟨db3, rfl, h6⟩
  have HN := Lib.hid ((names_walk h6.swap.fst).mono (R' := fun e w' => ∃ p c, e = .returned (.slice p 0 c) ∧ Has [] w w' (((Dk db ex1.2).sep (.row 5 1 vb ([120, 121] : List UInt8).length (bytesV [120, 121]))).sep (.row 5 1 vt ([135] : List UInt8).length (bytesV [135])))) (by
    rw [x4]
    rintro e w' ⟨v, rfl, h'⟩
    obtain ⟨_, ⟨hr, _⟩, _⟩ := id h'
    obtain ⟨p, c, rfl⟩ := rowSlice hr
    exact ⟨p, c, rfl, h6.fst.quiet h'.keeps⟩))
  clear h6 HC
  unfold ptr at HN
  go_wp2_with fail
  refine HN.out.mono ?_
  rintro e w7 ⟨np, nc, rfl, h7⟩
  have HB := Lib.hid h7.fst
  obtain ⟨_, ht, _⟩ := h7.right
  obtain ⟨_, hb, _⟩ := HB.out.right
  have b1 := conv_str (bytesAt_part hb)
  have b2 := conv_str (bytesAt_part ht)
  have HK := Lib.hid h7.keeps
  clear HN h7 ht hb
  go_wp2_with fail
  have HO := Lib.hid (ops_walk HB.out.fst)
  rw [x5] at HO
  refine HO.out.mono ?_
  rintro e w8 ⟨rfl, hk8⟩
  have h8 := HB.out.fst.quiet hk8
  have HA := Lib.hid ((append_out (bs := []) h8 nmAB (bytes_none _).x).mono (R' := fun e w' => e = .returned (.int .i64 20) ∧ Has [] w w' (Dk db ex4.2)) (by
    rintro e w' ⟨rfl, h'⟩
    refine ⟨?_, h'⟩
    rw [← x6]; rfl))
  clear h8 hk8 HO
  unfold ptr at HA
  go_wp2_with fail
  refine HA.out.mono ?_
  rintro e w9 ⟨rfl, h9⟩
  obtain ⟨o9, h9', hs9, back⟩ := h9.call
  have HS := Lib.hid ((sync_walk h9' nmQ).mono (R' := fun e w' => e = .returned (.int .i64 21) ∧ Kept [] w w') (by
    rintro e w' ⟨rfl, h'⟩
    refine ⟨?_, (back _ _ h').keeps⟩
    rw [← x7]; rfl))
  clear h9 h9' HA hs9 back
  unfold ptr at HS
  go_wp2_with fail
  refine HS.out.mono ?_
  rintro e w10 ⟨rfl, h10⟩
  have H10 := Lib.hid h10
  clear h10 HS
  go_wp2_with fail
  go_ret
  exact ⟨rfl, H10.out⟩
end Go.Proofs.Ytbankfdgoolbdaa
