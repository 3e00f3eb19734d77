/- Functions that call themselves. -/
import Derived.Test.YtccdkoimpoockaaDoorVCfg
set_option linter.all false
set_option linter.unusedVariables false
set_option linter.unusedSectionVars false
set_option linter.unusedSimpArgs false
namespace Go.V
variable [Codes]
section
variable {P : Program} {C : Cfg}

theorem enter_fun {f : Nat} {fn : Func} (h1 : P.funcs[f]? = some fn) (h2 : funOk fn = true) : Enterable P f := by
  unfold funOk at h2
  split at h2
  · rename_i c hc
    simp only [Bool.and_eq_true, Bool.not_eq_true'] at h2
    exact ⟨fn, h1, h2.2, by rw [hc]; rfl⟩
  · cases h2

/-- A pure function that calls itself: its contract at each number of rounds. -/
theorem pure_rec {f : FuncId} (p : PSpec) (step : Nat → tysDen p.args → Option (tysDen p.res)) (h0 : ∀ x, step 0 x = none)
    (h : ∀ n, PureOK P C f { p with fn := step n } → PureOK P C f { p with fn := step (n + 1) }) (hp : ∀ x y, p.fn x = some y → ∃ n, step n x = some y) : PureOK P C f p := by
  have all : ∀ n, PureOK P C f { p with fn := step n } := by
    intro n
    induction n with
    | zero =>
      intro fz w args x y _ _ _ hy
      have hy' : step 0 x = some y := hy
      rw [h0] at hy'
      cases hy'
    | succ n ih => exact h n ih
  intro fz w args x y hG hf ha hy
  obtain ⟨n, hn⟩ := hp x y hy
  exact all n fz w args x y hG hf ha hn

/-- The same of one that returns a slice of its own. -/
theorem fresh_rec {f : FuncId} (p : RSpec) (step : Nat → tysDen p.args → Option (List p.T.den)) (h0 : ∀ x, step 0 x = none)
    (h : ∀ n, FreshOK P C f { p with fn := step n } → FreshOK P C f { p with fn := step (n + 1) }) (hp : ∀ x y, p.fn x = some y → ∃ n, step n x = some y) : FreshOK P C f p := by
  have all : ∀ n, FreshOK P C f { p with fn := step n } := by
    intro n
    induction n with
    | zero =>
      intro fz w args x y _ _ _ hy
      have hy' : step 0 x = some y := hy
      rw [h0] at hy'
      cases hy'
    | succ n ih => exact h n ih
  intro fz w args x y hG hf ha hy
  obtain ⟨n, hn⟩ := hp x y hy
  exact all n fz w args x y hG hf ha hn

/-- The same of a function that is handed boxes. -/
theorem call_rec {f : FuncId} (p : CSpec) (step : Nat → envDen p.args × bxsDen p.ins → Option (shDen p.res × bxsDen p.outs)) (h0 : ∀ x, step 0 x = none)
    (h : ∀ n, CallOK P C f { p with fn := step n } → CallOK P C f { p with fn := step (n + 1) }) (hp : ∀ x y, p.fn x = some y → ∃ n, step n x = some y) : CallOK P C f p := by
  have all : ∀ n, CallOK P C f { p with fn := step n } := by
    intro n
    induction n with
    | zero =>
      intro g w vals xa xb y _ _ hy
      have hy' : step 0 (xa, xb) = some y := hy
      rw [h0] at hy'
      cases hy'
    | succ n ih => exact h n ih
  intro g w vals xa xb y hG hs hy
  obtain ⟨n, hn⟩ := hp _ y hy
  exact all n g w vals xa xb y hG hs hn

end
end Go.V
