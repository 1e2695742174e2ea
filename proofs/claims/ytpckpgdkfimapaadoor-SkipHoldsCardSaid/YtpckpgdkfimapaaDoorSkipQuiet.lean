/- A whole row read in a region that draws its order, in a quiet walk. -/
import Derived.Test.YtpckpgdkfimapaaDoorSkipAt
import Derived.Stop.BytesEq
namespace Go.Proofs.YtpckpgdkfimapaaDoor
open Go Go.RowKit Go.BigFrame
set_option linter.unusedVariables false

theorem quiet_load_mid {P : Program} {C : World → Prop} {a : Act} {o : Oper} {K : Act → Prop} (ty : TypeId) (x : Operand) (ho : o.op = .load ty x) (b k : Nat) (hx : a.eval x = .pointer (some ⟨b, k, none⟩)) (cs : List Value) (d : TypeDesc) (hc : ∀ w, C w → w.rangeAt b k cs)
    (hu : P.underlying ty = some d) (hd : d.isRow = true) (hi : (P.info? ty).map (·.size) = some cs.length) (h : K (a.put o.dst (.agg cs.toArray))) : o.quiet P a C K :=
  ⟨_, fun w hw => by
    unfold Oper.quietAt execOp
    simp only [ho, hx, Instr.loadAt, Instr.sureAddr, Sem.run_bind, Sem.run_pure, Result.andThen_ok, run_loadVar_mid w b k ty cs d (hc w hw) hu hd hi]
    exact ⟨rfl, rfl⟩, h⟩

/-- A range behind some draws. -/
theorem range_drew {w : World} {b k : Nat} {cs : List Value} (h : w.rangeAt b k cs) : ∀ w', (∃ n, w' = w.drewN n) → w'.rangeAt b k cs := by
  rintro _ ⟨n, rfl⟩ j v hv
  rw [World.cell?_drewN]; exact h j v hv

end Go.Proofs.YtpckpgdkfimapaaDoor
