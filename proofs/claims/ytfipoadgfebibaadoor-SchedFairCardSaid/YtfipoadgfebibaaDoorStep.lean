/- The walk of a program's Step. -/
import Derived.Test.YtfipoadgfebibaaDoorRight
import Derived.Test.YtfipoadgfebibaaDoorDo
import Derived.Test.YtfipoadgfebibaaDoorRow
import Derived.Deep.RegionHeld3
namespace Go.Proofs.YtfipoadgfebibaaDoor
open Go Go.RowKit
set_option linter.unusedVariables false

/-- An arena as a part. -/
def Part.arena (b : Nat) (S : Ar) : Part := ⟨fun w fp => ArenaAt w b fp S, fun h => h.fp_lt, fun h k hn => h.kept k hn⟩

theorem Has.own {o w0 w b S} (h : Has o w0 w (.arena b S)) : OwnF o w0 w b S := h
theorem Has.ofOwn {o w0 w b S} (h : OwnF o w0 w b S) : Has o w0 w (.arena b S) := h

/-- A program's struct: its arena, its operations, what came out. -/
def tkF (b : Nat) (ops out : Value) : Nat → Value := fun i => if i = 0 then .pointer (some ⟨b, 0, none⟩) else if i = 1 then ops else out

def Part.task (b t : Nat) (ops out : Value) (l : List Int) : Part :=
  (Part.blk t 3 54 (tkF b ops out)).sep (.row 32 1 out l.length (l.map (Value.int .u64)))

/-- What a run is at: the arena; each program's task. -/
def RunAt (w0 w : World) (b : Nat) (S : Ar) (n : Nat) (tb : Nat → Nat) (vs ov : Nat → Value) (outs : Nat → List Int) (R : Part) : Prop :=
  Has [] w0 w (((Part.arena b S).sep (.all n fun i => .task b (tb i) (vs i) (ov i) (outs i))).sep R)

theorem RunAt.cells {w0 w b S n tb vs ov outs R} (h : RunAt w0 w b S n tb vs ov outs R) {i : Nat} (hi : i < n) :
    w.cell? ⟨tb i, 0, none⟩ = some (.pointer (some ⟨b, 0, none⟩)) ∧ w.cell? ⟨tb i, 1, none⟩ = some (vs i) ∧ w.cell? ⟨tb i, 2, none⟩ = some (ov i) ∧ w.ownsRow 0 32 1 (ov i) (outs i).length ((outs i).map (Value.int .u64)) := by
  obtain ⟨o1, h1, _⟩ := h.left
  obtain ⟨o2, h2, _⟩ := h1.right
  obtain ⟨o3, ⟨fp, ⟨f, g, ⟨hb, _⟩, ⟨hr, _⟩, _⟩, _⟩, _⟩ := h2.pick hi
  exact ⟨hb.cell (i := 0) (by omega), hb.cell (i := 1) (by omega), hb.cell (i := 2) (by omega), hr⟩

/-- Whatever an arena's call does, it does in a run. -/
theorem RunAt.arena {w0 w b S n tb vs ov outs R} (h : RunAt w0 w b S n tb vs ov outs R) (hT : TabAt w0) :
    ∃ o, OwnF o w w b S ∧ TabAt w ∧ 0 ∉ o ∧ ∀ w' S', OwnF o w w' b S' → RunAt w0 w' b S' n tb vs ov outs R := by
  obtain ⟨o1, h1, a1, _, back1⟩ := h.left
  obtain ⟨o2, h2, a2, _, back2⟩ := h1.left
  refine ⟨o2, h2, hT.kept h.keeps (by simp), ?_, fun w' S' h' => back1 w' _ (back2 w' _ h')⟩
  intro hx
  have := hT.pos
  have := h.keeps.size
  rcases a2 _ hx with hx | hx
  · rcases a1 _ hx with hx | hx
    · simp at hx
    · omega
  · omega

/-- A field that holds a row of the call's own, and an append to it. -/
theorem Has.appendField {o : List Nat} {w0 w w5 : World} {t n j m len : Nat} {T e : TypeId} {f : Nat → Value} {v v' : Value} {xs news : List Value} (ob : Obj)
    (h : Has o w0 w ((Part.blk t n T f).sep (.row e 1 v len xs))) (happ : Appended (w.alloc ob) w5 e 1 v v' (len + m) (xs ++ news)) :
    Has o w0 (w5.setCell ⟨t, j, none⟩ v') ((Part.blk t n T (upd f j v')).sep (.row e 1 v' (len + m) (xs ++ news))) := by
  obtain ⟨fp, ⟨f1, f2, ⟨hb, rfl⟩, ⟨hr, rfl⟩, hd, rfl⟩, hn, k⟩ := h
  have htv : v.ownBlock ≠ some t := fun e => hd t (by simp) (mem_rowsOf.2 e)
  have hlt := hb.lt
  have htv' : v'.ownBlock ≠ some t := by
    rcases happ.place with e | e
    · rw [e]; exact htv
    · rw [e]; simp; omega
  have k1 : Kept ([t] ++ rowsOf v) w w5 := ((Kept.refl _ w).alloc ob).grown happ.grown fun b _ e => by simp [mem_rowsOf, e]
  refine Has.step hn k ⟨[t] ++ rowsOf v', ⟨[t], rowsOf v', ⟨?_, rfl⟩, ⟨row_other happ.row _ htv', rfl⟩, ?_, rfl⟩, ?_, k1.set _ (by simp)⟩
  · refine Blk.set (hb.of_heap ?_) j v'
    rw [happ.grown.block t (by simp; omega) (fun e => htv e.symm), Below.heap_alloc w ob t hlt]
  · intro x hx hx'
    simp at hx; subst hx
    exact htv' (mem_rowsOf.1 hx')
  · intro x hx
    simp only [List.mem_append, List.mem_singleton, mem_rowsOf] at hx ⊢
    rcases hx with rfl | hx
    · exact .inl (.inl rfl)
    · rcases happ.place with e | e
      · rw [e] at hx; exact .inl (.inr hx)
      · rw [e] at hx
        simp only [Option.some.injEq, Option.some.injEq] at hx
        right
        have : (w.alloc ob).heap.size = w.heap.size + 1 := by simp
        omega

theorem Has.appended_cell {o : List Nat} {w0 w w5 : World} {t n j m len : Nat} {T e : TypeId} {f : Nat → Value} {v v' : Value} {xs news : List Value} (ob : Obj)
    (h : Has o w0 w ((Part.blk t n T f).sep (.row e 1 v len xs))) (happ : Appended (w.alloc ob) w5 e 1 v v' (len + m) (xs ++ news)) (hj : j < n) :
    w5.cell? ⟨t, j, none⟩ = some (f j) ∧ w5.frozen? ⟨t, j, none⟩ = false := by
  obtain ⟨fp, ⟨f1, f2, ⟨hb, rfl⟩, ⟨hr, rfl⟩, hd, rfl⟩, hn, k⟩ := h
  have htv : v.ownBlock ≠ some t := fun e => hd t (by simp) (mem_rowsOf.2 e)
  have hlt := hb.lt
  have hb5 : Blk w5 t n T f := hb.of_heap (by rw [happ.grown.block t (by simp; omega) (fun e => htv e.symm), Below.heap_alloc w ob t hlt])
  exact ⟨hb5.cell hj, hb5.free j⟩

def updF {A : Type} (f : Nat → A) (i : Nat) (v : A) : Nat → A := fun j => if j = i then v else f j

theorem RunAt.task {w0 w b S n tb vs ov outs R} (h : RunAt w0 w b S n tb vs ov outs R) {i : Nat} (hi : i < n) :
    ∃ o, Has o w w (.task b (tb i) (vs i) (ov i) (outs i)) ∧ ∀ w' ov' l', Has o w w' (.task b (tb i) (vs i) ov' l') → RunAt w0 w' b S n tb vs (updF ov i ov') (updF outs i l') R := by
  obtain ⟨o1, h1, a1, _, back1⟩ := h.left
  obtain ⟨o2, h2, a2, _, back2⟩ := h1.right
  obtain ⟨o3, h3, a3, _, back3⟩ := h2.pick hi
  refine ⟨o3, h3, fun w' ov' l' h' => back1 w' _ (back2 w' _ ((back3 w' _ h').congr fun j hj => ?_))⟩
  unfold updP updF
  by_cases e : j = i
  · subst e; simp
  · simp [e]

set_option maxHeartbeats 4000000 in
set_option maxRecDepth 100000 in
theorem step_done {w0 w b S n tb vs ov outs R} (h : RunAt w0 w b S n tb vs ov outs R) {i : Nat} (hi : i < n) {m : Nat} {f : Nat → OpV} (ho : OpsAt w0 (vs i) m f) (hl : (outs i).length = m) :
    Calls Tryd.prog 50 #[.pointer (some ⟨tb i, 0, none⟩)] w fun e w' => e = .returned (.bool false) ∧ RunAt w0 w' b S n tb vs ov outs R := by
  obtain ⟨c0, c1, c2, hr⟩ := h.cells hi
  obtain ⟨p, cap, hvs, hm, hrg, hc⟩ := ho
  rw [hvs] at c1
  have hrow : ∃ p cap, ov i = .slice p (outs i).length cap := by
    rcases row_val hr with ⟨h1, h0⟩ | ⟨g, cap, h1, _⟩
    · exact ⟨none, 0, by rw [h0]; exact h1⟩
    · exact ⟨_, _, h1⟩
  obtain ⟨q, qcap, hov⟩ := hrow
  rw [hov, hl] at c2
  have HR := Lib.hid h
  clear hr hc hrg hvs hov hl h
  generalize tb i = t at *
  go_enter Tryd.func50, Tryd.ntmps50
  have e1 : ((m : Int) == (m : Int)) = true := by simp
  go_wp2_with fail
  go_quiet (fail)
  go_wp2_with fail
  go_ret
  exact ⟨rfl, HR.out.drewN _⟩


set_option maxHeartbeats 4000000 in
set_option maxRecDepth 100000 in
theorem step_does {w0 w b S n tb vs ov outs R} (h : RunAt w0 w b S n tb vs ov outs R) (hT : TabAt w0) {i : Nat} (hi : i < n) {m : Nat} {f : Nat → OpV} (ho : OpsAt w0 (vs i) m f) (l : Nat) (hl : (outs i).length = l) (hlm : l < m) (hm6 : m ≤ 65536) (a1 a2 : Int) (S' : Ar) (hd : doS S (f l).k (f l).c (f l).x (f l).y = (a1, a2, S')) :
    Calls Tryd.prog 50 #[.pointer (some ⟨tb i, 0, none⟩)] w fun e w' => e = .returned (.bool true) ∧ ∃ ov', RunAt w0 w' b S' n tb vs (updF ov i ov') (updF outs i (outs i ++ [a1])) R := by
  obtain ⟨c0, c1, c2, hr⟩ := h.cells hi
  obtain ⟨p, cap, hvs, hm, hrg, hc⟩ := ho
  obtain ⟨ab, off, rfl, hab, hcells⟩ := hc (by omega)
  obtain ⟨o0, o1, o2, o3⟩ := hcells l hlm
  have HOC := Lib.hid (And.intro o0 (And.intro o1 (And.intro o2 o3)))
  replace o0 := h.keeps.cell o0 (by simp)
  replace o1 := h.keeps.cell o1 (by simp)
  replace o2 := h.keeps.cell o2 (by simp)
  replace o3 := h.keeps.cell o3 (by simp)
  have hrl := hrg l hlm
  rw [hvs] at c1
  have hrow : ∃ p cap, ov i = .slice p (outs i).length cap := by
    rcases row_val hr with ⟨h1, h0⟩ | ⟨g, cap, h1, _⟩
    · exact ⟨none, 0, by rw [h0]; exact h1⟩
    · exact ⟨_, _, h1⟩
  obtain ⟨q, qcap, hov⟩ := hrow
  rw [hov, hl] at c2
  have HR := Lib.hid h
  have HT := Lib.hid hT
  have HL := Lib.hid hl
  have HD := Lib.hid hd
  have HRL := Lib.hid hrl
  have HOV := Lib.hid hov
  have HVS := Lib.hid hvs
  clear hr hc hrg hvs hov hl h hT hd hrl hcells
  generalize ht : tb i = t at *
  have HTB := Lib.hid ht
  clear ht
  go_enter Tryd.func50, Tryd.ntmps50
  have e1 : ((l : Int) == (m : Int)) = false := by simp; omega
  have hin : 0 ≤ (l : Int) ∧ (l : Int) < (m : Int) := by omega
  go_wp2_with fail
  go_quiet (fail)
  replace c0 : (w.drewN nq).cell? ⟨t, 0, none⟩ = some (.pointer (some ⟨b, 0, none⟩)) := c0
  replace c1 : (w.drewN nq).cell? ⟨t, 1, none⟩ = some (.slice (some ⟨ab, off, none⟩) m cap) := c1
  replace c2 : (w.drewN nq).cell? ⟨t, 2, none⟩ = some (.slice q l qcap) := c2
  replace o0 : (w.drewN nq).cell? ⟨ab, off + l * 4, none⟩ = some (.int .i64 (f l).k) := o0
  replace o1 : (w.drewN nq).cell? ⟨ab, off + l * 4 + 1, none⟩ = some (.int .i64 (f l).c) := o1
  replace o2 : (w.drewN nq).cell? ⟨ab, off + l * 4 + 2, none⟩ = some (.int .u64 (f l).x) := o2
  replace o3 : (w.drewN nq).cell? ⟨ab, off + l * 4 + 3, none⟩ = some (.int .u64 (f l).y) := o3
  replace HR := Lib.hid (show RunAt w0 (w.drewN nq) b S n tb vs ov outs R from HR.out.drewN nq)
  generalize w.drewN nq = w2 at *
  go_wp2_with fail
  go_region_held3 (fun w' => w'.cell? ⟨t, 0, none⟩ = some (.pointer (some ⟨b, 0, none⟩)) ∧ w'.cell? ⟨t, 1, none⟩ = some (.slice (some ⟨ab, off, none⟩) m cap) ∧ w'.cell? ⟨t, 2, none⟩ = some (.slice q l qcap) ∧
      w'.cell? ⟨ab, off + l * 4, none⟩ = some (.int .i64 (f l).k) ∧ w'.cell? ⟨ab, off + l * 4 + 1, none⟩ = some (.int .i64 (f l).c) ∧ w'.cell? ⟨ab, off + l * 4 + 2, none⟩ = some (.int .u64 (f l).x) ∧ w'.cell? ⟨ab, off + l * 4 + 3, none⟩ = some (.int .u64 (f l).y))
    (first | exact ⟨c0, c1, c2, o0, o1, o2, o3⟩ | exact ⟨d0, d1, d2, x0, x1, x2, x3⟩)
    (first | (go_at_call 51
              obtain ⟨o, hA, hT', hto, back⟩ := RunAt.arena (HR.out.quiet ((Kept.refl _ _).drew)) HT.out
              refine (own_do hA (f l).k (f l).c (f l).x (f l).y HRL.out.1 HRL.out.2).mono ?_
              rintro e w4 ⟨rfl, hO⟩
              have hR := back _ _ hO
              rw [HD.out] at hR
              simp only [HD.out]
              clear hA hT' hto back hO
              obtain ⟨d0, d1, d2, hr⟩ := hR.cells hi
              rw [HTB.out] at d0 d1 d2
              rw [HOV.out, HL.out] at d2
              rw [HVS.out] at d1
              have HR4 := Lib.hid hR
              clear hR hr
              have x0 := HR4.out.keeps.cell HOC.out.1 (by simp)
              have x1 := HR4.out.keeps.cell HOC.out.2.1 (by simp)
              have x2 := HR4.out.keeps.cell HOC.out.2.2.1 (by simp)
              have x3 := HR4.out.keeps.cell HOC.out.2.2.2 (by simp)))
  have hrow := (HR4.out.cells hi).2.2.2.alloc (.cells #[.int .u64 a1] 32)
  rw [HOV.out, HL.out] at hrow
  have HROW := Lib.hid hrow
  clear c0 c1 c2 o0 o1 o2 o3 d0 d1 d2 x0 x1 x2 x3 HR hrow
  obtain ⟨i0, hi0, hz0, hz1, hz2⟩ := info_parts info_u64
  go_wp2_with (at_builtin; refine wpList_append_new rfl (.tmp 39) (.tmp 41) 26 rfl 32 i0 (.int .u64 0) 1 8 Tryd.underlying26 hi0 hz0 hz1 hz2 rfl (by decide) _ _ _ rfl HROW.out ⟨_, 0, none⟩ 1 1 [.int .u64 a1] rfl rfl ?d1 ?d2 ?d3 ?d4 ?_)
  try (case d1 => (exact cell_one _ _ _ _ (by simp)))
  try (case d2 => (simp [Value.oneCell']))
  try (case d3 => (simp only [maxLen]; omega))
  try (case d4 => (omega))
  intro v' w5 happ
  obtain ⟨o3, h3, back3⟩ := HR4.out.task hi
  rw [HTB.out, HOV.out] at h3
  have h3' : Has o3 w4 w4 ((Part.blk t 3 54 (tkF b (vs i) (.slice q (outs i).length qcap))).sep (.row 32 1 (.slice q (outs i).length qcap) (outs i).length ((outs i).map (Value.int .u64)))) := h3
  rw [HL.out] at h3'
  obtain ⟨x2, xf⟩ := Has.appended_cell (j := 2) _ h3' happ (by omega)
  have hfin := Has.appendField (j := 2) _ h3' happ
  obtain ⟨g', cap', rfl, _, _, _, _, _⟩ := row_out happ.row (by omega)
  have HFIN := Lib.hid hfin
  have HB := Lib.hid back3
  clear happ hfin h3 h3' back3
  go_wp2_with fail
  go_ret
  refine ⟨rfl, _, HB.out _ (.slice (some ⟨g', 0, none⟩) (l + 1) cap') (outs i ++ [a1]) ?_⟩
  have hF := HFIN.out
  rw [← HTB.out] at hF ⊢
  refine hF.mono ?_
  rintro fp ⟨f1, f2, ⟨hb, rfl⟩, ⟨hr, rfl⟩, hd, rfl⟩
  refine ⟨_, _, ⟨?_, rfl⟩, ⟨?_, rfl⟩, ?_, rfl⟩
  · refine hb.congr fun j hj => ?_
    have : j = 0 ∨ j = 1 ∨ j = 2 := by omega
    rcases this with rfl | rfl | rfl <;> rfl
  · have e : (outs i ++ [a1]).length = l + 1 := by simp [HL.out]
    rw [e, List.map_append]
    exact hr
  · exact hd
end Go.Proofs.YtfipoadgfebibaaDoor
