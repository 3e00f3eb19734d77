/- Fences that keep nobody out. -/
import Derived.Test.YtccdkoimpoockaaDoorVCall
import Derived.CallsIn
import Derived.OrdersIn
import Derived.RangeFuncCalls
import Derived.RangeFuncLeaves
set_option linter.all false
set_option linter.unusedVariables false
set_option linter.unusedSectionVars false
set_option linter.unusedSimpArgs false
namespace Go.V
variable [Codes]

/-- A fence that keeps nobody out: in a function's own frame, or in a round's. -/
inductive Wide : Fence → Prop where
  | base : Wide Fence.wide
  | round (l : Nat) : Wide (Fence.wide.inRound l)

theorem Wide.fn {F : Fence} (h : Wide F) (f : FuncId) : F.fn f := by cases h <;> exact trivial
theorem Wide.depth {F : Fence} (h : Wide F) : F.depth = none := by cases h <;> rfl
theorem Wide.deep {F : Fence} (h : Wide F) (n : Nat) : F.depth.isSome = true → 1 ≤ n := fun e => by rw [h.depth] at e; simp at e
theorem Wide.inRound {F : Fence} (h : Wide F) (l : Nat) : Wide (F.inRound l) := by cases h <;> exact .round l
theorem Wide.calls {F : Fence} (h : Wide F) {n : Nat} {P : Program} {f : FuncId} {args : Array Value} {w : World} {R : Ending → World → Prop} : CallsIn F n P f args w R ↔ Calls P f args w R := by
  cases h with
  | base => exact callsIn_wide
  | round l => exact ⟨fun h => callsIn_wide.1 (CallsIn.outOfRound h), fun h => CallsIn.inRound l (callsIn_wide.2 h)⟩

theorem wpIn_run {F : Fence} (hW : Wide F) {n : Nat} {P : Program} {o : Oper} {a : Act} {w : World} {next : Act → World → Prop} {Q : Exit → Act → World → Prop} (hnd : ∀ c, o.op ≠ .defer c)
    (h : o.uponIn F n P a next Q ((execOp a.eval o).run P w)) : o.wpIn F n P a w next Q := by
  refine ⟨fun f _ => hW.fn f, ?_⟩
  rw [Oper.semAt_eq _ _ _ hnd]
  exact h

theorem execA_noDefer {C : Cfg} {base : Nat} {o : Oper} {s : St} {x : Bool × AV × Eff} (h : execA C base o s = some x) : ∀ c, o.op ≠ .defer c := by
  intro c hc
  unfold execA at h
  rw [hc] at h
  cases h

end Go.V
