/- A call of a function that returns a slice of its own. -/
import Derived.Test.YtccdkoimpoockaaDoorVShape
set_option linter.all false
set_option linter.unusedVariables false
set_option linter.unusedSectionVars false
set_option linter.unusedSimpArgs false
namespace Go.V
variable [Codes]
section
variable {P : Program} {C : Cfg}

/-- A function that returns one slice, which nobody else has. -/
def FreshOK (P : Program) (C : Cfg) (f : FuncId) (p : RSpec) : Prop :=
  ∀ (fz : Nat → Nat → Option Value) (w : World) (args : Array Value) (x : tysDen p.args) (l : List p.T.den), GlobOK C fz → FzOK (.of fz) w → TVs fz p.args x args.toList → p.fn x = some l →
    Calls P f args w fun e w' => ∃ v fz' gb, e = .returned v ∧ gb.isRow = true ∧ WinR gb .whole v ∧ BoxR (.of fz') (.row p.T p.fz l) gb w' ∧ (∀ blk, gb.blk = some blk → gb.own = true → w.heap.size ≤ blk) ∧ FzOK (.of fz') w' ∧ Tr (.of fz) w (.of fz') w'

/-- A new box at a place that no other has. -/
theorem StR.addAt {g : Gh} {s : St} {tm : Array Value} {tms : List (Array Value)} {w : World} (h : StR g s tm tms w) {key : Nat} (hk : find s.bxs key = none)
    (b : Box) (gb : Gb) (hb : BoxR (g.put key gb) b gb w) (ho : ∀ blk, gb.blk = some blk → gb.own = true → ¬ owned g blk) :
    StR (g.put key gb) { s with bxs := (key, b) :: s.bxs } tm tms w ∧ ExtBut none g (g.put key gb) := by
  have hn := h.bxs.none hk
  have hx := ext_put gb hn
  refine ⟨⟨h.env.grow hx, h.stk.grow hx, ⟨?_, ?_, ?_⟩, fun b o v e => h.fz b o v e⟩, hx⟩
  · intro k b' e
    by_cases hkk : key = k
    · subst hkk
      rw [find_cons_same] at e
      cases e
      exact ⟨gb, Gh.put_same _ _ _, hb⟩
    · rw [find_cons_other _ _ hkk] at e
      obtain ⟨gb', e1, e2⟩ := h.bxs.box k b' e
      exact ⟨gb', by rw [Gh.put_other _ _ (Ne.symm hkk)]; exact e1, e2.ext hx (fun _ _ _ => rfl) (fun _ _ _ _ h => h) (boxClear_none _)⟩
  · intro k gb' e
    by_cases hkk : key = k
    · subst hkk; rw [find_cons_same]; rfl
    · rw [Gh.put_other _ _ (Ne.symm hkk)] at e
      rw [find_cons_other _ _ hkk]
      exact h.bxs.dom k gb' e
  · intro k j a b' blk hne e1 e2 a1 a2 b1 b2
    by_cases hk1 : k = key
    · subst hk1
      rw [Gh.put_same] at e1
      cases e1
      rw [Gh.put_other _ _ (Ne.symm hne)] at e2
      exact ho blk a1 a2 ⟨j, b', e2, b1, b2⟩
    · rw [Gh.put_other _ _ hk1] at e1
      by_cases hj : j = key
      · subst hj
        rw [Gh.put_same] at e2
        cases e2
        exact ho blk b1 b2 ⟨k, a, e1, a1, a2⟩
      · rw [Gh.put_other _ _ hj] at e2
        exact h.bxs.sep k j a b' blk hne e1 e2 a1 a2 b1 b2

theorem Tr.putRow {g0 g : Gh} {w0 w : World} (t : Tr g0 w0 g w) {key : Nat} {gb : Gb} (ho : ∀ blk, gb.blk = some blk → gb.own = true → w0.heap.size ≤ blk) : Tr g0 w0 (g.put key gb) w :=
  ⟨t.os, t.tape, t.output, t.size, t.fz, t.fzNew, by
    rintro b ⟨k, a, e1, e2, e3⟩
    by_cases hk : k = key
    · subst hk
      rw [Gh.put_same] at e1
      cases e1
      exact .inr (ho b e2 e3)
    · rw [Gh.put_other _ _ hk] at e1
      exact t.own b ⟨k, a, e1, e2, e3⟩, t.block⟩

theorem callR_ok {R : Type} {f : FuncId} {p : RSpec} (hp : FreshOK P C f p) {g : Gh} {s : St} {tm : Array Value} {tms : List (Array Value)} {w : World} (hs : StR g s tm tms w) (hG : GlobOK C g.fz) {key : Nat} {args : List AV} {K : AV → St → Option R} {r : R}
    (h : callR p key args s K = some r) {vals : Array Value} (hv : VsR g args vals.toList) : CallsTo P f vals g tm tms w K r := by
  have hvm : ∀ {l : List AV} {cs : List Value} {g' : Gh}, ExtBut none g g' → VsR g l cs → VsR g' l cs := by
    intro l
    induction l with
    | nil => intro cs g' _ h; cases cs <;> exact h
    | cons v l ih =>
      intro cs g' hx h
      cases cs with
      | nil => exact h.elim
      | cons c cs => exact ⟨h.1.grow hx, ih hx h.2⟩
  unfold callR at h
  split at h
  · rename_i hfree
    obtain ⟨fz1, h1, t1⟩ := StR.frzL args hs
    have hx : ExtBut none g ⟨fz1, g.bx⟩ := ⟨t1.fz, fun _ _ _ h => h, fun _ _ h _ => nomatch h⟩
    obtain ⟨x, h2, h3⟩ := argsK_ok h1.bxs.w h1.fz h (hvm hx hv)
    rw [Option.bind_eq_some_iff] at h2
    obtain ⟨y, hy, hK⟩ := h2
    refine Calls.mono (hp fz1 w vals x y (hG.mono t1.fz) h1.fz h3 hy) ?_
    rintro e w' ⟨v, fz2, gb, rfl, k1, k2, k3, k4, h5, t2⟩
    have hw : ∀ b, b < w.heap.size → w'.heap[b]? = w.heap[b]? := fun b hb => t2.block b hb (not_owned _ _)
    obtain ⟨h6, t3⟩ := h1.ghost (fz' := fz2) t2.fz (fun b o e => by
      rcases t2.fzNew b o e with h | h | h
      · exact .inl h
      · exact .inr h
      · exact (not_owned _ _ h).elim) h5 t2.os t2.tape t2.output t2.size hw
    obtain ⟨h7, hx2⟩ := h6.addAt (key := key) hfree (.row p.T p.fz y) gb (boxR_fzSame rfl k3) (fun blk e1 e2 ⟨k, a, q1, q2, q3⟩ => by
      have := h1.bxs.lt ⟨k, a, q1, q2, q3⟩
      have := k4 blk e1 e2
      omega)
    exact ⟨_, _, _, _, rfl, hK, ⟨gb, v, Gh.put_same _ _ _, k1, rfl, k2⟩, h7, (t1.trans t3).putRow k4⟩
  · cases h

end
end Go.V
