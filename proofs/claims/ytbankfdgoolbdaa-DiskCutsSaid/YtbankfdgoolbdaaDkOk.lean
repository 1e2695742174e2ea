/- What holds of a disk at all times, told plainly, is kept by all that is done to it. Nothing is claimed of a program here. -/
import Derived.Test.YtbankfdgoolbdaaDkAbs
namespace Go.Proofs.Ytbankfdgoolbdaa
open Go
set_option linter.unusedVariables false

theorem runLog_keeps2 {P : Dir → Prop} : ∀ (L : List Chg) (l l' : Dir), (∀ c ∈ L, ∀ (l : Dir) (l' : Dir), P l → c.on l = some l' → P l') → P l → runLog l L = some l' → P l'
  | [], l, l', _, h, e => by cases e; exact h
  | c :: r, l, l', hP, h, e => by
    simp only [runLog, Option.bind_eq_some_iff] at e
    obtain ⟨m, h1, h2⟩ := e
    exact runLog_keeps2 r m l' (fun c' hc' => hP c' (by simp [hc'])) (hP c (by simp) l m h h1) h2

def Chg.named : Chg → Prop
  | .mk s _ => isNm s = true
  | .del s => isNm s = true
  | .ren s t => isNm s = true ∧ isNm t = true

theorem on_each {n : Nat} {c : Chg} {l l' : Dir} (hc : c.named) (hi : ∀ s i, c = .mk s i → i < n) (hl : ∀ p ∈ l, isNm p.1 = true ∧ p.2 < n) (h : c.on l = some l') : ∀ p ∈ l', isNm p.1 = true ∧ p.2 < n := by
  cases c with
  | mk s i =>
    simp only [Chg.on] at h
    split at h
    · cases h
      intro p hp
      rcases mem_alPut.1 hp with rfl | ⟨hp, _⟩
      · exact ⟨hc, hi s i rfl⟩
      · exact hl p hp
    · cases h
  | del s => cases h; exact fun p hp => hl p (List.mem_filter.1 hp).1
  | ren s t =>
    simp only [Chg.on, Option.map_eq_some_iff] at h
    obtain ⟨i, hi', rfl⟩ := h
    intro p hp
    rcases mem_alPut.1 hp with rfl | ⟨hp, _⟩
    · exact ⟨hc.2, (hl _ (alFind_mem hi')).2⟩
    · exact hl p (List.mem_filter.1 hp).1

variable {a : ADk}

/-- What the directory is behind the first changes of the log. -/
structure DirOk (a : ADk) (l : Dir) : Prop where
  len : l.length ≤ 64
  rise : Rising l
  nms : ∀ p ∈ l, isNm p.1 = true
  ids : ∀ p ∈ l, p.2 < a.fs.length

theorem ADk.Ok.named (h : a.Ok) : ∀ c ∈ a.log, c.named := fun c hc => by
  have := h.lognm c hc
  cases c <;> exact this

theorem ADk.Ok.prefix (h : a.Ok) (k : Nat) : ∃ l, runLog a.old (a.log.take k) = some l ∧ DirOk a l := by
  obtain ⟨l, hl⟩ := runLog_take h.log k
  refine ⟨l, hl, ?_⟩
  have h1 := runLog_keeps2 (P := fun l => l.length ≤ 64) _ _ _ (fun c _ l l' hl he => on_len he hl) h.old hl
  have h2 := runLog_keeps2 (P := fun l => Rising l) _ _ _ (fun c _ l l' hl he => on_rising he hl) h.rise hl
  have h3 := runLog_keeps2 (P := fun l => ∀ p ∈ l, isNm p.1 = true ∧ p.2 < a.fs.length) _ _ _
    (fun c hc l l' hl he => on_each (h.named c (List.mem_of_mem_take hc)) (fun s i e => h.logids s i (e ▸ List.mem_of_mem_take hc)) hl he) (fun p hp => ⟨h.nms p hp, h.ids p hp⟩) hl
  exact ⟨h1, h2, fun p hp => (h3 p hp).1, fun p hp => (h3 p hp).2⟩

theorem ADk.Ok.now (h : a.Ok) : DirOk a a.now := by
  obtain ⟨l, hl, hd⟩ := h.prefix a.log.length
  rw [List.take_length, h.log] at hl
  cases hl
  exact hd

theorem ADk.Ok.powered (h : a.Ok) : a.powered.Ok := ⟨h.log, h.old, h.rise, h.nms, h.lognm, h.ids, h.logids, h.fs, h.ops, h.loglen⟩

theorem ADk.new_ok : ADk.new.Ok := ⟨rfl, by decide, List.Pairwise.nil, by simp [ADk.new], by simp [ADk.new], by simp [ADk.new], by simp [ADk.new], by simp [ADk.new], by decide, by decide⟩

/-- The files are other ones. -/
theorem ADk.Ok.files (h : a.Ok) (fs : List AFile) (hl : a.fs.length ≤ fs.length) (hf : ∀ f ∈ fs, f.b.length ≤ 262144 ∧ f.sy ≤ f.b.length) : ({ a with fs := fs } : ADk).Ok :=
  ⟨h.log, h.old, h.rise, h.nms, h.lognm, fun p hp => Nat.lt_of_lt_of_le (h.ids p hp) hl, fun s i hi => Nat.lt_of_lt_of_le (h.logids s i hi) hl, hf, h.ops, h.loglen⟩

theorem ADk.Ok.set (h : a.Ok) (i : Nat) (f : AFile) (hf : f.b.length ≤ 262144 ∧ f.sy ≤ f.b.length) : ({ a with fs := a.fs.set i f } : ADk).Ok :=
  h.files _ (by simp) fun g hg => by
    rcases List.mem_or_eq_of_mem_set hg with hg | rfl
    · exact h.fs g hg
    · exact hf

theorem ADk.Ok.did (h : a.Ok) (hn : a.ops < 65536) : a.did.Ok := ⟨h.log, h.old, h.rise, h.nms, h.lognm, h.ids, h.logids, h.fs, hn, Nat.le_succ_of_le h.loglen⟩

/-- A change that can be done. -/
theorem ADk.Ok.changed (h : a.Ok) (hn : a.ops < 65536) {c : Chg} {l' : Dir} (hc : c.on a.now = some l') (hnm : c.named) (hi : ∀ s i, c = .mk s i → i < a.fs.length) : (a.change c).did.Ok := by
  refine ⟨?_, h.old, h.rise, h.nms, ?_, h.ids, ?_, h.fs, hn, ?_⟩
  · show runLog a.old (a.log ++ [c]) = some ((c.on a.now).getD a.now)
    rw [runLog_append, h.log, hc]
    show (c.on a.now).bind (fun l' => some l') = _
    rw [hc]; rfl
  · intro c' hc'
    rcases List.mem_append.1 hc' with hc' | hc'
    · exact h.lognm c' hc'
    · simp at hc'; subst hc'; cases c' <;> exact hnm
  · intro s i hs
    rcases List.mem_append.1 hs with hs | hs
    · exact h.logids s i hs
    · simp at hs; exact hi s i hs.symm
  · show (a.log ++ [c]).length ≤ a.ops + 1
    have := h.loglen
    simp; omega

theorem bad_off {there : Bool} {l : List Nm} (h : a.bad there l = 0) : a.off = false ∧ l.all isNm = true ∧ (there = true → (alFind a.now (l.headD [])).isSome = true) ∧ a.ops < 65536 := by
  unfold ADk.bad at h
  split at h
  · cases h
  split at h
  · cases h
  split at h
  · cases h
  split at h
  · cases h
  · rename_i h1 h2 h3 h4
    refine ⟨by simpa using h1, by simpa using h2, fun e => ?_, by omega⟩
    subst e
    cases hf : alFind a.now (l.headD []) with
    | none => rw [hf] at h3; simp at h3
    | some v => rfl

theorem ADk.file_ok (h : a.Ok) (i : Nat) : (a.file i).b.length ≤ 262144 ∧ (a.file i).sy ≤ (a.file i).b.length := by
  unfold ADk.file
  rw [List.getD_eq_getElem?_getD]
  cases hf : a.fs[i]? with
  | none => simp
  | some f => exact h.fs f (List.mem_of_getElem? hf)

theorem ADk.append_ok (h : a.Ok) (s : Nm) (b : List UInt8) : (a.append s b).2.Ok := by
  have hp := h.powered
  unfold ADk.append
  simp only
  split
  · exact hp
  · rename_i hb
    obtain ⟨h1, h2, h3, h4⟩ := bad_off (Classical.not_not.1 hb)
    have hs : isNm s = true := by simpa using h2
    split
    · rename_i hn
      split
      · exact hp
      · rename_i hc
        have h5 : a.powered.now.length < 64 := by omega
        have h6 : b.length ≤ 262144 := by omega
        refine ADk.Ok.changed (a := { a.powered with fs := a.powered.fs ++ [AFile.mk b 0] }) (hp.files (a.powered.fs ++ [AFile.mk b 0]) (by simp) ?_) h4 (c := .mk s a.powered.fs.length) (l' := alPut a.powered.now s a.powered.fs.length) ?_ hs ?_
        · intro f hf
          rcases List.mem_append.1 hf with hf | hf
          · exact hp.fs f hf
          · simp at hf; subst hf; exact ⟨h6, Nat.zero_le _⟩
        · show (if (alFind a.powered.now s).isNone && decide (a.powered.now.length < 64) then _ else _) = _
          rw [hn, if_pos (by simp [h5])]
        · intro s' i' e
          cases e
          simp
    · rename_i i hi
      split
      · exact hp
      · rename_i hc
        have := a.powered.file_ok hp i
        exact (hp.set i _ ⟨by simp; omega, by simp; omega⟩).did h4

theorem ADk.sync_ok (h : a.Ok) (s : Nm) : (a.sync s).2.Ok := by
  have hp := h.powered
  unfold ADk.sync
  simp only
  split
  · exact hp
  · rename_i hb
    obtain ⟨h1, h2, h3, h4⟩ := bad_off (Classical.not_not.1 hb)
    split
    · exact hp
    · rename_i i hi
      have := a.powered.file_ok hp i
      exact (hp.set i ⟨(a.powered.file i).b, (a.powered.file i).b.length⟩ ⟨this.1, Nat.le_refl _⟩).did h4

theorem ADk.rename_ok (h : a.Ok) (s t : Nm) : (a.rename s t).2.Ok := by
  have hp := h.powered
  unfold ADk.rename
  simp only
  split
  · exact hp
  · rename_i hb
    obtain ⟨h1, h2, h3, h4⟩ := bad_off (Classical.not_not.1 hb)
    have h3' := h3 rfl
    simp only [List.headD_cons] at h3'
    obtain ⟨i, hi⟩ := Option.isSome_iff_exists.1 h3'
    simp at h2
    exact hp.changed h4 (c := .ren s t) (l' := alPut (alDel a.powered.now s) t i) (by simp only [Chg.on, hi, Option.map_some]) h2 (fun _ _ e => by cases e)

theorem ADk.delete_ok (h : a.Ok) (s : Nm) : (a.delete s).2.Ok := by
  have hp := h.powered
  unfold ADk.delete
  simp only
  split
  · exact hp
  · rename_i hb
    obtain ⟨h1, h2, h3, h4⟩ := bad_off (Classical.not_not.1 hb)
    simp at h2
    exact hp.changed h4 (c := .del s) rfl h2 (fun _ _ e => by cases e)

theorem ADk.syncDir_ok (h : a.Ok) : a.syncDir.2.Ok := by
  have hp := h.powered
  unfold ADk.syncDir
  simp only
  split
  · exact hp
  · rename_i hb
    obtain ⟨h1, h2, h3, h4⟩ := bad_off (Classical.not_not.1 hb)
    have hn := hp.now
    exact ⟨rfl, hn.len, hn.rise, hn.nms, by simp [ADk.did], hn.ids, by simp [ADk.did], hp.fs, h4, by simp [ADk.did]⟩

theorem ADk.cutAt_ok (h : a.Ok) (n : Int) : (a.cutAt n).Ok := ⟨h.log, h.old, h.rise, h.nms, h.lognm, h.ids, h.logids, h.fs, h.ops, h.loglen⟩

theorem ADk.poke_ok (h : a.Ok) (s : Nm) (k : Int) (b : UInt8) : (a.poke s k b).2.Ok := by
  unfold ADk.poke
  split
  · exact h
  · split
    · exact h
    · rename_i i hi
      split
      · exact h
      · have := a.file_ok h i
        exact h.set i _ (by simpa using this)

theorem left_len (x : AFile) (hx : x.sy ≤ x.b.length) (keep tear : Int) : (x.left keep tear).b.length = (x.left keep tear).sy ∧ (x.left keep tear).sy ≤ x.b.length := by
  unfold AFile.left clamp
  simp only [List.length_append, List.length_take, List.length_map, List.length_drop]
  omega

theorem ADk.crash_ok (h : a.Ok) (keep dirs tear : Int) : (a.crash keep dirs tear).Ok := by
  obtain ⟨l, hl, hd⟩ := h.prefix dirs.toNat
  unfold ADk.crash
  rw [hl]
  simp only [Option.getD_some]
  have hlen : ((l.map (·.1)).zipIdx).length = l.length := by simp
  refine ⟨rfl, by rw [hlen]; exact hd.len, ?_, ?_, by simp, ?_, by simp, ?_, by simp, by simp⟩
  · show Rising ((l.map (·.1)).zipIdx)
    have h1 : (l.map (·.1)).Pairwise fun p q => bytesBefore p q = true := List.pairwise_map.2 hd.rise
    unfold Rising
    have h2 : ((l.map (·.1)).zipIdx).map (·.1) = l.map (·.1) := by simp
    rw [← h2, List.pairwise_map] at h1
    exact h1
  · intro p hp
    have : p.1 ∈ l.map (·.1) := by
      have h2 : ((l.map (·.1)).zipIdx).map (·.1) = l.map (·.1) := by simp
      rw [← h2]; exact List.mem_map_of_mem hp
    obtain ⟨q, hq, e⟩ := List.mem_map.1 this
    rw [← e]; exact hd.nms q hq
  · intro p hp
    have := List.snd_lt_add_of_mem_zipIdx hp
    simpa using this
  · intro f hf
    obtain ⟨p, hp, rfl⟩ := List.mem_map.1 hf
    have h1 := a.file_ok h p.2
    have h2 := left_len (a.file p.2) h1.2 keep tear
    omega

end Go.Proofs.Ytbankfdgoolbdaa
