/- Part 22 of the proof. -/
import Derived.Test.YtnmkgbomiillgaaGreatDoorP21
/- The concrete evaluator over the program: its functions. -/
namespace Go.XR
open Proofs
noncomputable abbrev PT : Program := Tryz.prog
def okFn (fn : Func) : Bool := !(fn.name == "runtime.NumGoroutine") && match fn.body with | some c => dstsB fn.ntmps c | none => true
def funsOf (P : Program) (f : FuncId) : Option Func := match P.funcs[f]? with | some fn => cond (okFn fn) (some fn) none | none => none
theorem funsOf_ok {P : Program} {f : FuncId} {fn : Func} (h : funsOf P f = some fn) : P.funcs[f]? = some fn ∧ (fn.name == "runtime.NumGoroutine") = false ∧ ∀ c, fn.body = some c → dstsB fn.ntmps c = true := by
  unfold funsOf at h
  split at h
  · rename_i fn' hf
    cases hb : okFn fn' with
    | false => rw [hb] at h; cases h
    | true =>
      rw [hb] at h
      cases h
      simp only [okFn, Bool.and_eq_true, Bool.not_eq_true'] at hb
      refine ⟨hf, hb.1, fun c hc => ?_⟩
      have := hb.2
      rw [hc] at this
      exact this
  · cases h
def idT (f : FuncId) : Bool := Nat.beq f 324
theorem id_ok {f : FuncId} (h : idT f = true) (v : Value) (w : World) : (callFunc f #[v]).run PT w = .ok (.value v) w := by
  have e := Nat.eq_of_beq_eq_true h
  subst e
  show (callFunc 324 #[v]).run PT w = .ok (.value v) w
  kernel_rfl
theorem fok {B : World} {orc : FuncId → List CV → VS → Option Res} (h : OrcOk PT B orc) : FOk PT B (funsOf PT) orc idT := {
  mixed := by kernel_rfl
  funs f fn hf := funsOf_ok hf
  orc := h
  idf f hf v w := id_ok hf v w }
end Go.XR
