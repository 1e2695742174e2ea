/- The walk of an arena's Alloc. -/
import Derived.Test.YtpckpgdkfimapaaDoorCellsFree
import Derived.Test.YtpckpgdkfimapaaDoorCellsPut
import Derived.Test.YtpckpgdkfimapaaDoorAppend
import Derived.Deep.LoopGhost
namespace Go.Proofs.YtpckpgdkfimapaaDoor
open Go Go.RowKit
set_option linter.unusedVariables false

/-- The library's table, as its variable holds it. -/
def TabAt (w : World) : Prop := ∀ j, j < Lib.deBruijn64tab.length → w.cell? ⟨0, j, none⟩ = some (.int .u8 (Lib.deBruijn64tab.getD j 0))

set_option maxHeartbeats 1000000 in
theorem tz_core (x k idx : Nat) (w : World) (hx0 : ((x : Int) == 0) = false)
    (key : IntKind.u64.wrap (bits BinOp.and IntKind.u64 (x : Int) (IntKind.u64.wrap (-(x : Int))) * 285870213051353865) / 288230376151711744 = (idx : Int))
    (hi : idx < 64) (hk : k < 64) (hcell : w.cell? ⟨0, idx, none⟩ = some (.int .u8 k)) :
    Calls Tryd.prog 41 #[.int .u64 x] w fun e w' => e = .returned (.int .i64 k) ∧ w' = w := by
  go_enter Tryd.func41, Tryd.ntmps41
  go_wp2_with (simp only [key])
  go_ret
  exact ⟨rfl, rfl⟩

theorem tz_key (x a : Nat) (hx : x < 18446744073709551616) (hx0 : x ≠ 0) (hlow : x &&& (18446744073709551616 - x) = a) :
    IntKind.u64.wrap (bits BinOp.and IntKind.u64 (x : Int) (IntKind.u64.wrap (-(x : Int))) * 285870213051353865) / 288230376151711744 = ((a * 285870213051353865 % 18446744073709551616 / 288230376151711744 : Nat) : Int) := by
  have e1 : IntKind.u64.wrap (-(x : Int)) = ((18446744073709551616 - x : Nat) : Int) := by rw [IntKind.wrap_u64]; omega
  rw [e1, bits_and_u64_nat x _ hx (by omega), hlow, IntKind.wrap_u64]
  omega

theorem tz_calls (x : Nat) (hx : x < 18446744073709551616) (hx0 : x ≠ 0) (w : World) (hT : TabAt w) :
    Calls Tryd.prog 41 #[.int .u64 x] w fun e w' => e = .returned (.int .i64 (Lib.ctz 64 x)) ∧ w' = w := by
  obtain ⟨hlow, hk⟩ := Lib.lowest_bit 64 x hx0 hx
  obtain ⟨hi, htab⟩ := Lib.deBruijn64_at _ hk
  have key := tz_key x _ hx hx0 hlow
  have hc := hT _ (show _ < Lib.deBruijn64tab.length from hi)
  rw [htab] at hc
  exact tz_core x _ _ w (by simp; omega) key hi hk hc

theorem TabAt.kept {own : List Nat} {w w' : World} (h : TabAt w) (k : Kept own w w') (hn : 0 ∉ own) : TabAt w' :=
  fun j hj => k.cell (h j hj) hn

/-- What Alloc of the cell c, the bit j of the word m, leaves. -/
def AllocPost (w : World) (b : Nat) (hv : Value) (size : Int) (hs : List Int) (ws : Nat → Nat) (used : Nat) (steps : Int) (m j : Nat) (w' : World) : Prop :=
  ∃ hv', ArRep w' b hv' size (if m * 64 + j = hs.length then hs ++ [0] else hs.set (m * 64 + j) 0) (fun i => if i = m then ws m ||| 2 ^ j else ws i) (m : Nat) ((used : Nat) + 1 : Int) steps ∧
    Kept (b :: rowsOf hv) w w' ∧ ∀ k, hv'.ownBlock = some k → hv.ownBlock = some k ∨ w.heap.size ≤ k

theorem ArRep.alloc {w b hv size hs ws low used steps} (h : ArRep w b hv size hs ws low used steps) (o : Obj) : ArRep (w.alloc o) b hv size hs ws low used steps :=
  ⟨h.blk.alloc o, h.row.alloc o, h.ne, h.word, h.few⟩

/-- Behind the append in Alloc. -/
theorem alloc_done {w w2 W w1 : World} {b : Nat} {hv v' : Value} {size : Int} {hs : List Int} {ws ws' : Nat → Nat} {low used steps : Int} (hr : ArRep W b hv size hs ws low used steps) (hk : Kept [b] w W) (hbw : b < w.heap.size)
    (ha : Appended W w1 65 1 hv v' (hs.length + 1) (hs.map (Value.int .u64) ++ [.int .u64 0])) (hf : hs.length + 1 ≤ 65536) :
    ∃ g cap, v' = .slice (some ⟨g, 0, none⟩) (hs.length + 1) cap ∧ hs.length + 1 ≤ cap ∧ cap ≤ maxLen ∧ g ≠ b ∧ (∀ i, w1.frozen? ⟨g, i, none⟩ = false) ∧ w1.cell? ⟨g, hs.length, none⟩ = some (.int .u64 0) ∧
      w1.cell? ⟨b, 1, none⟩ = some hv ∧ (∀ i, w1.frozen? ⟨b, i, none⟩ = false) ∧
      ArRep ((w1.setCell ⟨b, 1, none⟩ v').setCell ⟨g, hs.length, none⟩ (.int .u64 0)) b v' size (hs ++ [0]) ws low used steps ∧
      Kept (b :: rowsOf hv) w ((w1.setCell ⟨b, 1, none⟩ v').setCell ⟨g, hs.length, none⟩ (.int .u64 0)) ∧ (hv.ownBlock = some g ∨ w.heap.size ≤ g) := by
  obtain ⟨g, cap, rfl, h1, h2, h3, h4, h5⟩ := row_out ha.row (by omega)
  have hb : w1.heap[b]? = W.heap[b]? := ha.grown.block b hr.blk.lt (fun e => hr.ne e.symm)
  have hblk := hr.blk.of_heap hb
  have hgb : g ≠ b := by
    rcases ha.place with e | e
    · intro e2; subst e2; exact hr.ne (by rw [← e]; rfl)
    · intro e2; subst e2
      simp [Value.ownBlock] at e
      have := hr.blk.lt; omega
  have hpl : hv.ownBlock = some g ∨ w.heap.size ≤ g := by
    rcases ha.place with e | e
    · left; rw [← e]; rfl
    · right; simp [Value.ownBlock] at e; have := hk.size; omega
  have hput := hr.putRow (w1 := w1) _ 0 ha.row hb (by simpa [Value.ownBlock] using hgb) hf
  refine ⟨g, cap, rfl, h1, h2, hgb, h4, h5 _ _ (by simp), hblk.cell (i := 1) (by omega), hblk.free, ?_, ?_, hpl⟩
  · have := hput.putCell hs.length 0 (by simp)
    simpa using this
  · have k1 : Kept (b :: rowsOf hv) w W := hk.mono (fun k _ m => by simp at m; simp [m])
    have k2 : Kept (b :: rowsOf hv) w w1 := k1.grown ha.grown (fun k hk' e => List.mem_cons_of_mem _ (mem_rowsOf.2 e))
    have k3 := k2.set (a := ⟨b, 1, none⟩) (.slice (some ⟨g, 0, none⟩) (hs.length + 1) cap) (by simp)
    rcases hpl with e | e
    · exact k3.set _ (List.mem_cons_of_mem _ (mem_rowsOf.2 e))
    · exact k3.setNew _ e

theorem info_u64 : (Tryd.prog.info? 65).map (fun i => (i.zero, i.size, i.bytes)) = some (some (.int .u64 0), 1, 8) := by kernel_rfl

set_option maxHeartbeats 4000000 in
set_option maxRecDepth 100000 in
theorem alloc_walk (w : World) (b : Nat) (hv : Value) (size : Int) (hs : List Int) (ws : Nat → Nat) (low used : Nat) (steps : Int) (m : Nat) (h : ArRep w b hv size hs ws low used steps) (hT : TabAt w) (hg : b ≠ 0)
    (hu : used < size) (hsz : size ≤ 65536) (hm0 : low ≤ m) (hm1 : m < 1024) (hm2 : ∀ i, low ≤ i → i < m → ws i = 18446744073709551615) (hm3 : ws m ≠ 18446744073709551615)
    (j : Nat) (hj : Lib.ctz 64 (18446744073709551615 - ws m) = j) (hle : m * 64 + j ≤ hs.length) (hfew : m * 64 + j < 65536) :
    Calls Tryd.prog 35 #[.pointer (some ⟨b, 0, none⟩)] w fun e w' => e = .returned (.tuple #[.int .i64 (m * 64 + j : Int), .int .i64 0]) ∧ AllocPost w b hv size hs ws used steps m j w' := by
  have c0 := h.c0
  have c4 := h.c4
  have htest : ((used : Int) == size) = false := by simp; omega
  have H := Lib.hid h
  have HB := Lib.hid h.blk.lt
  have HT := Lib.hid hT
  have HM2 := Lib.hid hm2
  have HM3 := Lib.hid hm3
  have HJ := Lib.hid hj
  clear h hT hm2 hm3 hj
  go_enter Tryd.func35, Tryd.ntmps35
  go_wp2
  go_quiet (fail)
  go_wp2
  clear c0 c4
  go_loopg [] (m - low) (fun k wr => ∃ l : Nat, low ≤ l ∧ l ≤ m ∧ k = m - l ∧ ArRep wr b hv size hs ws l used steps ∧ Kept [b] w wr)
  case atStart => exact ⟨low, Nat.le_refl _, hm0, rfl, H.out.drewN _, (Kept.refl _ _).drewN _⟩
  case round =>
    obtain ⟨l, hl0, hl1, hk, hr, hkept⟩ := hrel
    have c3 := hr.c3
    have c2 := hr.c2 (i := l) (by omega)
    have fr := hr.blk.free
    have HR := Lib.hid hr
    have HK := Lib.hid hkept
    clear hr hkept
    by_cases hlm : l < m
    · have e : ws l = 18446744073709551615 := HM2.out l hl0 hlm
      rw [e] at c2
      go_wp2
      go_quiet (fail)
      go_wp2
      go_roundg (m - (l + 1))
      case measure => omega
      case rel => exact ⟨l + 1, by omega, by omega, rfl, (HR.out.drewN _).putLow _, (HK.out.drewN _).set _ (by simp)⟩
    · obtain rfl : l = m := by omega
      have e : (((ws l : Nat) : Int) == 18446744073709551615) = false := by
        have := HM3.out
        simp; omega
      have hz := HR.out.word l
      have hgap := least_gap (ws l) hz HM3.out
      rw [HJ.out] at hgap
      have htz : ∀ n, Calls Tryd.prog 41 #[.int .u64 (bits BinOp.xor IntKind.u64 (if IntKind.u64.signed = true then -1 else IntKind.u64.max) (ws l : Int))] (wr.drewN n) fun e w' => e = .returned (.int .i64 (j : Int)) ∧ w' = wr.drewN n := by
        intro n
        rw [xor_not _ hz, ← HJ.out]
        have hT' : TabAt (wr.drewN n) := (HT.out.kept HK.out (by simpa using Ne.symm hg)).kept ((Kept.refl [] wr).drewN n) (by simp)
        exact tz_calls _ (by omega) (by have := HM3.out; omega) _ hT'
      have c4 := HR.out.c4
      have c1 := HR.out.c1
      have HTZ := Lib.hid htz
      have HG := Lib.hid hgap
      have HZ := Lib.hid hz
      have hj64 := hgap.1
      clear htz hgap hz
      go_wp2
      go_quiet (fail)
      go_wp2
      have hin : 0 ≤ (l : Int) ∧ (l : Int) < 1024 := by omega
      have hw1 : IntKind.i64.wrap ((l : Int) * 64) = (l : Int) * 64 := IntWalk.i64_in _ (by omega)
      have hw2 : IntKind.i64.wrap ((l : Int) * 64 + (j : Int)) = (l : Int) * 64 + (j : Int) := IntWalk.i64_in _ (by omega)
      go_quiet ((go_at_call 41; refine (HTZ.out _).mono ?_; rintro e w' ⟨rfl, rfl⟩; exact ⟨rfl, _, rfl⟩))
      clear hw1 hw2 hin
      rw [xor_not _ HZ.out]
      have ec : (l : Int) * 64 + (j : Int) = ((l * 64 + j : Nat) : Int) := by omega
      rw [ec]
      clear ec
      obtain ⟨c, hc, hcl, hcj⟩ : ∃ c : Nat, l * 64 + j = c ∧ c / 64 = l ∧ c % 64 = j := ⟨_, rfl, by omega, by omega⟩
      rw [hc]
      rw [hc] at hle hfew
      have HC := Lib.hid hc
      have HCL := Lib.hid hcl
      have HCJ := Lib.hid hcj
      clear hc hcl hcj
      go_wp2
      go_region
      have eor := (or_pow (ws l) j HZ.out hj64).1
      have hor := (or_pow (ws l) j HZ.out hj64).2
      rw [HCJ.out, eor]
      generalize hw2 : (World.setCell (World.drewN wr _) ⟨b, 2 + l, none⟩ (.int .u64 ((ws l ||| 2 ^ j : Nat) : Int))) = w2
      have hr2 : ArRep w2 b hv size hs (fun i => if i = l then ws l ||| 2 ^ j else ws i) l used steps := by rw [← hw2]; exact (HR.out.drewN _).putWord l (ws l ||| 2 ^ j) hm1 hor
      have hk2 : Kept [b] w w2 := by rw [← hw2]; exact (HK.out.drewN _).set _ (by simp)
      clear eor hor c1 c3 c4 c2 fr e HTZ HG HK HR hw2
      clear wr
      have c4 := hr2.c4
      have c1 := hr2.c1
      have fr := hr2.blk.free
      have HR := Lib.hid hr2
      have HK := Lib.hid hk2
      have hval := hr2.val
      have hf := hr2.few
      clear hr2 hk2
      by_cases hcn : c = hs.length
      · obtain ⟨i0, hi, hz0, hz1, hz2⟩ := info_parts info_u64
        have hcb : ((c : Int) == (hs.length : Int)) = true := by rw [hcn]; simp
        have HCN := Lib.hid hcn
        have hcap : hs.length + 1 ≤ 65536 := by omega
        have hcle : c ≤ hs.length := by omega
        have hcge : hs.length ≤ c := by omega
        have hown : (w2.setCell ⟨b, 1027, none⟩ (.int .i64 (used + 1))).ownsRow 0 65 1 hv hs.length (hs.map (Value.int .u64)) := (HR.out.putUsed _).row
        clear hcn
        rcases hval with ⟨rfl, hs0⟩ | ⟨g, cap, rfl, hcp, hcap2, hne, hlt2, hcells⟩
        · have hcb0 : ((c : Int) == 0) = true := by rw [hs0] at hcle; simp at hcle; simp [hcle]
          clear hs0
          have hown2 := hown.alloc (.cells #[.int .u64 0] 65)
          have HO := Lib.hid hown2
          clear hown hown2
          go_wp2_with (at_builtin; refine wpList_append_new rfl (.tmp 84) (.tmp 85) 64 rfl 65 i0 (.int .u64 0) 1 8 Tryd.underlying64 hi hz0 hz1 hz2 rfl (by decide) _ _ _ rfl HO.out ⟨_, 0, none⟩ 1 1 [.int .u64 0] rfl rfl ?c1 ?c2 ?c3 ?c4 ?_)
          case c1 => exact cell_one _ _ _ _ (by simp)
          case c2 => simp [Value.oneCell']
          case c3 => simp only [maxLen]; first | omega | (simp; done)
          case c4 => first | omega | (simp; done)
          intro v' w1 happ
          obtain ⟨g', cap', rfl, hd1, hd2, hd3, hd4, hd5, hd6, hd7, hd8, hd9, hd10⟩ := alloc_done (w := w) (w2 := w2) (ws' := ws) (HR.out.putUsed _ |>.alloc _) ((HK.out.set _ (by simp)).alloc _) HB.out happ hcap
          rw [← HCN.out] at hd5 hd8 hd9
          have HP := Lib.hid (And.intro hd8 (And.intro hd9 hd10))
          clear hd8 hd9 hd10 happ
          unfold maxLen at hd2
          go_wp2
          go_ret2
          obtain ⟨p1, p2, p3⟩ := HP.out
          refine ⟨by rw [← HC.out]; simp, .slice (some ⟨g', 0, none⟩) (hs.length + 1) cap', ?_, ?_, ?_⟩
          · rw [HC.out, if_pos HCN.out, ← HCN.out]; exact p1
          · rw [← HCN.out]; exact p2
          · intro k hk
            simp only [Value.ownBlock, Option.some.injEq] at hk
            subst hk
            exact p3
        · have hown2 := hown.alloc (.cells #[.int .u64 0] 65)
          have HO := Lib.hid hown2
          clear hown hown2 hcells
          go_wp2_with (at_builtin; refine wpList_append_new rfl (.tmp 84) (.tmp 85) 64 rfl 65 i0 (.int .u64 0) 1 8 Tryd.underlying64 hi hz0 hz1 hz2 rfl (by decide) _ _ _ rfl HO.out ⟨_, 0, none⟩ 1 1 [.int .u64 0] rfl rfl ?c1 ?c2 ?c3 ?c4 ?_)
          case c1 => exact cell_one _ _ _ _ (by simp)
          case c2 => simp [Value.oneCell']
          case c3 => simp only [maxLen]; first | omega | (simp; done)
          case c4 => first | omega | (simp; done)
          intro v' w1 happ
          obtain ⟨g', cap', rfl, hd1, hd2, hd3, hd4, hd5, hd6, hd7, hd8, hd9, hd10⟩ := alloc_done (w := w) (w2 := w2) (ws' := ws) (HR.out.putUsed _ |>.alloc _) ((HK.out.set _ (by simp)).alloc _) HB.out happ hcap
          rw [← HCN.out] at hd5 hd8 hd9
          have HP := Lib.hid (And.intro hd8 (And.intro hd9 hd10))
          clear hd8 hd9 hd10 happ
          unfold maxLen at hd2
          go_wp2
          go_ret2
          obtain ⟨p1, p2, p3⟩ := HP.out
          refine ⟨by rw [← HC.out]; simp, .slice (some ⟨g', 0, none⟩) (hs.length + 1) cap', ?_, ?_, ?_⟩
          · rw [HC.out, if_pos HCN.out, ← HCN.out]; exact p1
          · rw [← HCN.out]; exact p2
          · intro k hk
            simp only [Value.ownBlock, Option.some.injEq] at hk
            subst hk
            exact p3
      · have hcb : ((c : Int) == (hs.length : Int)) = false := by simp; omega
        have hlt : c < hs.length := by omega
        rcases hval with ⟨rfl, rfl⟩ | ⟨g, cap, rfl, hcap, hcap2, hne, hlt2, hcells⟩
        · exact absurd hlt (by simp)
        have cg := hcells c hlt
        have fg := HR.out.rowFree
        clear hcells hcn
        go_wp2
        go_ret2
        refine ⟨by rw [← HC.out]; simp, _, ?_, ?_, fun k hk => .inl hk⟩
        · rw [HC.out, if_neg (by omega)]
          exact (HR.out.putUsed _).putCell c 0 hlt
        · exact ((HK.out.mono (fun k _ m => by simp at m; simp [m])).set _ (by simp)).set _ (by simp [rowsOf, Value.ownBlock])
end Go.Proofs.YtpckpgdkfimapaaDoor
