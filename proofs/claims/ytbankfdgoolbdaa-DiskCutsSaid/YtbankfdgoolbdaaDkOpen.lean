/- What a statement's row wants of any walk that leaves all that was there as it was; strings, bytes, fates and scripts that came in, opened to their cells. Nothing is claimed of a program's calls here. -/
import Derived.Test.YtbankfdgoolbdaaRows
import Derived.Test.YtbankfdgoolbdaaDkRefName
import Derived.Test.YtbankfdgoolbdaaDkPlay
import Derived.WalkKit
import Derived.ProofKit
import Derived.OpenShut
import Derived.ChangeOld
import Derived.SizedLaws
import Derived.Deep.DeepHandedRow
import Derived.Deep.Slices
import Derived.ChangeMaps5
namespace Go.Proofs.Ytbankfdgoolbdaa
open Go Go.ChangeShapes Go.WideShapes Go.ChangeAt Go.RowKit
set_option linter.unusedVariables false

theorem rk_own : ownKnob Try.prog.godebug = none := by kernel_rfl
theorem rk_laidOut : laidOutB Try.prog = true := by kernel_rfl

section
variable {H : Type} {enc : TypeId × Value → H}

theorem below_trodAll {W W' : World} (hb : Below W.heap.size W W') : ∀ {ts : List TypeId} {vs : List Value} {ds : List (DataW H)} {ps : List MemPlace}, (∀ t ∈ ts, Try.prog.readableRec t = true ∧ t < Try.prog.types.size) → DataW.TrodAll enc Try.prog W 0 (fun _ => true) true ts vs ds ps →
    (∀ x ∈ ps, x.block < W.heap.size) → DataW.TrodAll enc Try.prog W' 0 (fun b => decide (b < W.heap.size)) true ts vs ds ps
  | [], vs, ds, ps, _, h, _ => by
    obtain ⟨rfl, rfl, rfl⟩ := trodAll_nil h
    exact trodAll_mk0
  | t :: ts, vs, ds, ps, hr, h, hlt => by
    obtain ⟨v, vs', d, ds', p, q, rfl, rfl, rfl, h1, h2⟩ := trodAll_cons h
    exact trodAll_cons_mk (Below.trod rk_laidOut (hr t (by simp)).1 (hr t (by simp)).2 h1 hb fun x hx => hlt x (by simp [hx])) (below_trodAll hb (fun t' ht' => hr t' (by simp [ht'])) h2 fun x hx => hlt x (by simp [hx]))

/-- A walk that answers true and keeps all that was there proves the row's contract. -/
theorem law_post {f : Func} {s : ChangeSpec} {W W' : World} {args : Array Value} {ds gs : List (DataW H)} {before : List MemPlace}
    (hv : s.vars = []) (hrt : f.resultTypes = #[4]) (hp : ∀ t ∈ f.params.toList, Try.prog.readableRec t = true ∧ t < Try.prog.types.size)
    (hW : DataW.Whole enc Try.prog f.params.toList s.vars false W args.toList ds gs before) (hres : (s.fn H (ds ++ gs)).results = [.lit (.bool true)]) (hargs : (s.fn H (ds ++ gs)).args = ds) (hvars : (s.fn H (ds ++ gs)).vars = [])
    (hk : Kept [] W W') : s.post enc Try.prog f false true false false W args (.bool true) W' := by
  have hb : Below W.heap.size W W' := hk.below (Nat.le_refl _) (by simp)
  have hW' := hW
  have hlt := hW.lt
  obtain ⟨p, q, hA, hV, rfl, hfz, hnd⟩ := hW
  refine ⟨ds, gs, p ++ q, [], p, q, hW', ?_, ?_, ?_, hb.frame _, fun h => by cases h⟩
  · rw [hrt, hres]
    exact trodAll_mk1 (shut_bool Try.underlying4 _)
  · rw [hargs]
    exact below_trodAll hb hp hA fun x hx => hlt x (by simp [hx])
  · rw [hvars, hv]
    rw [hv] at hV
    obtain ⟨rfl, rfl⟩ := trodVars_none hV
    exact hV

theorem addr_add (b off i : Nat) : (⟨b, off, none⟩ : Addr).add i = ⟨b, off + i, none⟩ := by
  simp only [Addr.add]
  split
  · rename_i h; subst h; rfl
  · rfl

theorem i64_in {a : Int} (h : (Lit.int .i64 a).wf = true) : -9223372036854775808 ≤ a ∧ a < 9223372036854775808 := by
  simp only [Lit.wf, Bool.and_eq_true, decide_eq_true_eq] at h
  have e1 : IntKind.i64.min = -9223372036854775808 := by decide
  have e2 : IntKind.i64.max = 9223372036854775807 := by decide
  omega

theorem u8_of {a : Int} (h : (Lit.int .u8 a).wf = true) : ∃ c : UInt8, Value.int .u8 a = byteV c := by
  simp only [Lit.wf, Bool.and_eq_true, decide_eq_true_eq] at h
  have e1 : IntKind.u8.min = 0 := by decide
  have e2 : IntKind.u8.max = 255 := by decide
  refine ⟨UInt8.ofNat a.toNat, ?_⟩
  unfold byteV
  rw [UInt8.toNat_ofNat']
  congr 1
  omega

/-- The cells of a slice that is read, each element by its own type. -/
theorem rows_trod {t e : TypeId} {C : Nat} {W : World} {fuel : Nat} {vcs : List Value} {y : DataW H × List MemPlace} (ht : Try.prog.underlying t = some (.slice e)) (hC : Try.prog.cellsOf e = C) (hC0 : 0 < C)
    (hf : DataW.trod enc Try.prog W 0 (fun _ => true) true fuel t vcs = some y) :
    ∃ p len cap, vcs = [.slice p len cap] ∧ len ≤ cap ∧ cap ≤ maxLen ∧ (p = none → len = 0 ∧ cap = 0) ∧
      (0 < len → ∃ b off, p = some ⟨b, off, none⟩ ∧ b < W.heap.size ∧ ∀ i, i < len → ∃ cs n x, cs.length = C ∧ (∀ j, j < C → W.cell? ⟨b, off + i * C + j, none⟩ = cs[j]?) ∧ DataW.trod enc Try.prog W 0 (fun _ => true) true n e cs = some x) := by
  rcases Go.Deep.open_slice ht hf with ⟨hcs, hx⟩ | ⟨a, len, cap, m, n, D, Pl, hcs, hb, hl, hm, hmm, hx, hi⟩
  · exact ⟨_, _, _, hcs, Nat.le_refl _, Nat.zero_le _, fun _ => ⟨rfl, rfl⟩, by omega⟩
  · refine ⟨_, _, _, hcs, hl, hm, (fun e => by cases e), fun hpos => ?_⟩
    simp only [if_true] at hmm
    obtain ⟨cs0, h0, _⟩ := hi 0 (by omega)
    rw [hC] at h0
    obtain ⟨_, hl0, hc0⟩ := World.cells?_some h0
    have h00 := hc0 0 hC0
    have hsome : ∃ u, W.cell? a = some u := by
      refine ⟨cs0[0]'(by omega), ?_⟩
      have e : (a.add (0 * C)).add 0 = a := by simp [Addr.add]
      rw [e] at h00
      rw [h00]
      exact List.getElem?_eq_getElem (by omega)
    obtain ⟨u, hu⟩ := hsome
    have hsp := World.cell?_spot hu
    obtain ⟨b, off, spot⟩ := a
    obtain rfl : spot = none := hsp
    refine ⟨b, off, rfl, cell_lt hu, fun i hil => ?_⟩
    obtain ⟨cs, h1, h2⟩ := hi i (by omega)
    rw [hC] at h1
    obtain ⟨_, hl1, hc1⟩ := World.cells?_some h1
    refine ⟨cs, n, _, hl1, fun j hj => ?_, h2⟩
    have := hc1 j hj
    rwa [addr_add, addr_add] at this

theorem rk_cB : Try.prog.cellsOf 5 = 1 := by kernel_rfl
theorem rk_cI : Try.prog.cellsOf 3 = 1 := by kernel_rfl
theorem rk_cS : Try.prog.cellsOf 9 = 1 := by kernel_rfl
theorem rk_cBs : Try.prog.cellsOf 27 = 1 := by kernel_rfl
theorem rk_cF : Try.prog.cellsOf 29 = 3 := by kernel_rfl
theorem rk_cO : Try.prog.cellsOf 38 = 8 := by kernel_rfl

/-- Bytes that came in. -/
theorem bytes_trod {W : World} {fuel : Nat} {vcs : List Value} {y : DataW H × List MemPlace} (h : DataW.trod enc Try.prog W 0 (fun _ => true) true fuel 27 vcs = some y) :
    ∃ v bs, vcs = [v] ∧ BytesX W v bs := by
  obtain ⟨p, len, cap, rfl, hl, hm, hp0, hp⟩ := rows_trod Try.underlying27 rk_cB (by omega) h
  have hex : ∀ i, ∃ c : UInt8, i < len → ∀ x, p = some x → W.cell? (x.add i) = some (byteV c) := by
    intro i
    by_cases hil : i < len
    · obtain ⟨b, off, rfl, hb, hi⟩ := hp (by omega)
      obtain ⟨cs, n, x, hlen, hc, htr⟩ := hi i hil
      obtain ⟨z0, e0, _, r0⟩ := DataW.trod_int (k := .u8) Try.underlying5 htr
      obtain ⟨c, ec⟩ := u8_of r0
      refine ⟨c, fun _ x hx => ?_⟩
      cases hx
      have := hc 0 (by omega)
      rw [e0] at this
      rw [addr_add, ← ec]
      simpa using this
    · exact ⟨0, fun h => absurd h hil⟩
  obtain ⟨f, hf⟩ := Classical.axiomOfChoice hex
  have hlf : ((List.range len).map f).length = len := by simp
  refine ⟨_, (List.range len).map f, rfl, p, cap, by rw [hlf], fun e => by rw [hlf]; exact hp0 e, fun x hx j u hj => ?_⟩
  unfold bytesV at hj
  rw [List.getElem?_map, List.getElem?_map] at hj
  by_cases hjl : j < len
  · rw [List.getElem?_range hjl] at hj
    cases hj
    exact hf j hjl x hx
  · rw [List.getElem?_eq_none (by simp; omega)] at hj
    cases hj

def FateV (k d t : Int) : Value := .agg #[.int .i64 k, .int .i64 d, .int .i64 t]

noncomputable def fieldsOf (t : TypeId) : Array Field := match Try.prog.underlying t with | some (.struct fs) => fs | _ => #[]
theorem rk_fate : Try.prog.underlying 29 = some (.struct (fieldsOf 29)) := by kernel_rfl
theorem rk_fateF : ((fieldsOf 29).map fun f : Field => (f.type, f.offset)) = #[(3, 0), (3, 1), (3, 2)] := by kernel_rfl
theorem rk_op : Try.prog.underlying 38 = some (.struct (fieldsOf 38)) := by kernel_rfl
theorem rk_opF : ((fieldsOf 38).map fun f : Field => (f.type, f.offset)) = #[(3, 0), (9, 1), (9, 2), (27, 3), (3, 4), (29, 5)] := by kernel_rfl

/-- A struct's fields, each by its own type. -/
theorem fields_trod {t : TypeId} {W : World} {n C : Nat} {cs : List Value} {x : DataW H × List MemPlace} {F : Array (TypeId × Nat)} (hu : Try.prog.underlying t = some (.struct (fieldsOf t))) (hC : Try.prog.cellsOf t = C) (hF : ((fieldsOf t).map fun f : Field => (f.type, f.offset)) = F)
    (h : DataW.trod enc Try.prog W 0 (fun _ => true) true n t cs = some x) :
    cs.length = C ∧ ∃ m, ∀ (i : Nat) (p : TypeId × Nat), F[i]? = some p → ∃ y, DataW.trod enc Try.prog W 0 (fun _ => true) true m p.1 ((cs.drop p.2).take (Try.prog.cellsOf p.1)) = some y := by
  obtain ⟨xs, m, _, _, hlen, hxs, hf⟩ := DataW.trod_struct hu h
  rw [hC] at hlen
  generalize (fieldsOf t) = fs at *
  refine ⟨hlen, m, ?_⟩
  intro i p hp
  rw [← hF, Array.getElem?_map] at hp
  cases hfi : fs[i]? with
  | none => rw [hfi] at hp; cases hp
  | some f =>
    rw [hfi] at hp
    simp only [Option.map_some, Option.some.injEq] at hp
    subst hp
    have hi : i < fs.size := (Array.getElem?_eq_some_iff.1 hfi).1
    refine ⟨xs[i]'(by omega), ?_⟩
    rw [hf i f hfi]
    exact List.getElem?_eq_getElem (by omega)

def Rng (a : Int) : Prop := -9223372036854775808 ≤ a ∧ a < 9223372036854775808

set_option maxRecDepth 100000 in
theorem fate_cells {W : World} {n : Nat} {cs : List Value} {x : DataW H × List MemPlace} (h : DataW.trod enc Try.prog W 0 (fun _ => true) true n 29 cs = some x) :
    ∃ k d t, cs = [.int .i64 k, .int .i64 d, .int .i64 t] ∧ Rng k ∧ Rng d ∧ Rng t := by
  obtain ⟨hlen, m, at_⟩ := fields_trod rk_fate rk_cF rk_fateF h
  match cs, hlen with
  | [c0, c1, c2], _ =>
    obtain ⟨y0, h0⟩ := at_ 0 (3, 0) rfl
    obtain ⟨y1, h1⟩ := at_ 1 (3, 1) rfl
    obtain ⟨y2, h2⟩ := at_ 2 (3, 2) rfl
    simp only [rk_cI] at h0 h1 h2
    obtain ⟨z0, e0, _, r0⟩ := DataW.trod_int (k := .i64) Try.underlying3 h0
    obtain ⟨z1, e1, _, r1⟩ := DataW.trod_int (k := .i64) Try.underlying3 h1
    obtain ⟨z2, e2, _, r2⟩ := DataW.trod_int (k := .i64) Try.underlying3 h2
    simp at e0 e1 e2
    subst e0 e1 e2
    exact ⟨z0, z1, z2, rfl, i64_in r0, i64_in r1, i64_in r2⟩

/-- An operation's cells. -/
def OpCells (W : World) (b k : Nat) (q : DOp) : Prop :=
  W.cell? ⟨b, k, none⟩ = some (.int .i64 q.kind) ∧ W.cell? ⟨b, k + 1, none⟩ = some (.string q.s) ∧ W.cell? ⟨b, k + 2, none⟩ = some (.string q.t) ∧
  (∃ v, W.cell? ⟨b, k + 3, none⟩ = some v ∧ BytesX W v q.b) ∧ W.cell? ⟨b, k + 4, none⟩ = some (.int .i64 q.n) ∧
  W.cell? ⟨b, k + 5, none⟩ = some (.int .i64 q.keep) ∧ W.cell? ⟨b, k + 6, none⟩ = some (.int .i64 q.dirs) ∧ W.cell? ⟨b, k + 7, none⟩ = some (.int .i64 q.tear)

structure DOp.Fits (q : DOp) : Prop where
  kind : Rng q.kind
  s : q.s.size ≤ 9223372036854775807
  t : q.t.size ≤ 9223372036854775807
  n : Rng q.n
  keep : Rng q.keep
  dirs : Rng q.dirs
  tear : Rng q.tear

def DOp.nil : DOp := ⟨0, ⟨#[]⟩, ⟨#[]⟩, [], 0, 0, 0, 0⟩

set_option maxRecDepth 100000 in
theorem op_trod {W : World} {n : Nat} {cs : List Value} {x : DataW H × List MemPlace} (h : DataW.trod enc Try.prog W 0 (fun _ => true) true n 38 cs = some x) :
    ∃ (q : DOp) (v : Value), q.Fits ∧ BytesX W v q.b ∧ cs = [.int .i64 q.kind, .string q.s, .string q.t, v, .int .i64 q.n, .int .i64 q.keep, .int .i64 q.dirs, .int .i64 q.tear] := by
  obtain ⟨hlen, m, at_⟩ := fields_trod rk_op rk_cO rk_opF h
  match cs, hlen with
  | [c0, c1, c2, c3, c4, c5, c6, c7], _ =>
    obtain ⟨y0, h0⟩ := at_ 0 (3, 0) rfl
    obtain ⟨y1, h1⟩ := at_ 1 (9, 1) rfl
    obtain ⟨y2, h2⟩ := at_ 2 (9, 2) rfl
    obtain ⟨y3, h3⟩ := at_ 3 (27, 3) rfl
    obtain ⟨y4, h4⟩ := at_ 4 (3, 4) rfl
    obtain ⟨y5, h5⟩ := at_ 5 (29, 5) rfl
    simp only [rk_cI, rk_cS, rk_cBs, rk_cF] at h0 h1 h2 h3 h4 h5
    obtain ⟨z0, e0, _, r0⟩ := DataW.trod_int (k := .i64) Try.underlying3 h0
    obtain ⟨z1, e1, _, r1⟩ := DataW.trod_string Try.underlying9 h1
    obtain ⟨z2, e2, _, r2⟩ := DataW.trod_string Try.underlying9 h2
    obtain ⟨v3, b3, e3, r3⟩ := bytes_trod h3
    obtain ⟨z4, e4, _, r4⟩ := DataW.trod_int (k := .i64) Try.underlying3 h4
    obtain ⟨k, d, t, e5, r5, r6, r7⟩ := fate_cells h5
    simp at e0 e1 e2 e3 e4 e5
    obtain ⟨e5, e6, e7⟩ := e5
    subst e0 e1 e2 e3 e4 e5 e6 e7
    exact ⟨⟨z0, z1, z2, b3, z4, k, d, t⟩, c3, ⟨i64_in r0, r1, r2, i64_in r4, r5, r6, r7⟩, r3, rfl⟩

/-- A script that can be read. -/
def OpsIn (W : World) (v : Value) (n : Nat) (f : Nat → DOp) : Prop :=
  ∃ p c, v = .slice p n c ∧ n ≤ c ∧ c ≤ 9223372036854775807 ∧ (∀ i, i < n → (f i).Fits) ∧ (0 < n → ∃ b off, p = some ⟨b, off, none⟩ ∧ ∀ i, i < n → OpCells W b (off + i * 8) (f i))

set_option maxRecDepth 100000 in
theorem ops_in {t : TypeId} {W : World} {fuel : Nat} {vcs : List Value} {y : DataW H × List MemPlace} (ht : Try.prog.underlying t = some (.slice 38))
    (h : DataW.trod enc Try.prog W 0 (fun _ => true) true fuel t vcs = some y) : ∃ v n f, vcs = [v] ∧ OpsIn W v n f := by
  obtain ⟨p, len, cap, rfl, hl, hm, _, hp⟩ := rows_trod ht rk_cO (by omega) h
  by_cases hpos : 0 < len
  · obtain ⟨b, off, rfl, hb, hi⟩ := hp hpos
    have hex : ∀ i, ∃ q : DOp, i < len → q.Fits ∧ OpCells W b (off + i * 8) q := by
      intro i
      by_cases hil : i < len
      · obtain ⟨cs, n, x, hlen, hc, htr⟩ := hi i hil
        obtain ⟨q, v, hq, hv, rfl⟩ := op_trod htr
        exact ⟨q, fun _ => ⟨hq, hc 0 (by omega), hc 1 (by omega), hc 2 (by omega), ⟨v, hc 3 (by omega), hv⟩, hc 4 (by omega), hc 5 (by omega), hc 6 (by omega), hc 7 (by omega)⟩⟩
      · exact ⟨.nil, fun h => absurd h hil⟩
    obtain ⟨f, hf⟩ := Classical.axiomOfChoice hex
    exact ⟨_, len, f, rfl, _, _, rfl, hl, hm, fun i h => (hf i h).1, fun _ => ⟨b, off, rfl, fun i h => (hf i h).2⟩⟩
  · exact ⟨_, len, fun _ => .nil, rfl, _, _, rfl, hl, hm, fun i hi => by omega, fun h => absurd h hpos⟩

/-- Strings that can be read. -/
def StrsAt (W : World) (v : Value) (n : Nat) (f : Nat → ByteArray) : Prop :=
  ∃ p c, v = .slice p n c ∧ n ≤ c ∧ c ≤ 9223372036854775807 ∧ (∀ i, i < n → (f i).size ≤ 9223372036854775807) ∧ (0 < n → ∃ b off, p = some ⟨b, off, none⟩ ∧ ∀ i, i < n → W.cell? ⟨b, off + i, none⟩ = some (.string (f i)))

set_option maxRecDepth 100000 in
theorem strs_in {t : TypeId} {W : World} {fuel : Nat} {vcs : List Value} {y : DataW H × List MemPlace} (ht : Try.prog.underlying t = some (.slice 9))
    (h : DataW.trod enc Try.prog W 0 (fun _ => true) true fuel t vcs = some y) : ∃ v n f, vcs = [v] ∧ StrsAt W v n f := by
  obtain ⟨p, len, cap, rfl, hl, hm, _, hp⟩ := rows_trod ht rk_cS (by omega) h
  by_cases hpos : 0 < len
  · obtain ⟨b, off, rfl, hb, hi⟩ := hp hpos
    have hex : ∀ i, ∃ q : ByteArray, i < len → q.size ≤ 9223372036854775807 ∧ W.cell? ⟨b, off + i, none⟩ = some (.string q) := by
      intro i
      by_cases hil : i < len
      · obtain ⟨cs, n, x, hlen, hc, htr⟩ := hi i hil
        obtain ⟨z1, e1, _, r1⟩ := DataW.trod_string Try.underlying9 htr
        subst e1
        exact ⟨z1, fun _ => ⟨r1, by have := hc 0 (by omega); simpa using this⟩⟩
      · exact ⟨⟨#[]⟩, fun h => absurd h hil⟩
    obtain ⟨f, hf⟩ := Classical.axiomOfChoice hex
    exact ⟨_, len, f, rfl, _, _, rfl, hl, hm, fun i h => (hf i h).1, fun _ => ⟨b, off, rfl, fun i h => (hf i h).2⟩⟩
  · exact ⟨_, len, fun _ => ⟨#[]⟩, rfl, _, _, rfl, hl, hm, fun i hi => by omega, fun h => absurd h hpos⟩

theorem OpCells.kept {W W' : World} {b k : Nat} {q : DOp} (h : OpCells W b k q) (kp : Kept [] W W') : OpCells W' b k q := by
  obtain ⟨h0, h1, h2, ⟨v, h3, h3b⟩, h4, h5, h6, h7⟩ := h
  exact ⟨kp.cell h0 (by simp), kp.cell h1 (by simp), kp.cell h2 (by simp), ⟨v, kp.cell h3 (by simp), h3b.kept kp (by simp)⟩, kp.cell h4 (by simp), kp.cell h5 (by simp), kp.cell h6 (by simp), kp.cell h7 (by simp)⟩

theorem OpsIn.kept {W W' : World} {v : Value} {n : Nat} {f : Nat → DOp} (h : OpsIn W v n f) (kp : Kept [] W W') : OpsIn W' v n f := by
  obtain ⟨p, c, h1, h2, h3, h4, h5⟩ := h
  refine ⟨p, c, h1, h2, h3, h4, fun h0 => ?_⟩
  obtain ⟨b, off, e, h6⟩ := h5 h0
  exact ⟨b, off, e, fun i hi => (h6 i hi).kept kp⟩

end
end Go.Proofs.Ytbankfdgoolbdaa
