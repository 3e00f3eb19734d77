/- Steps of memory: a new box, frozen cells, a store, a row that grows. -/
import Derived.Test.YtccdkoimpoockaaDoorVExt
set_option linter.all false
set_option linter.unusedVariables false
set_option linter.unusedSectionVars false
set_option linter.unusedSimpArgs false
namespace Go.V
variable [Codes]

def Gh.put (g : Gh) (k : Nat) (gb : Gb) : Gh := { fz := g.fz, bx := fun j => if j = k then some gb else g.bx j }

theorem Gh.put_same (g : Gh) (k : Nat) (gb : Gb) : (g.put k gb).bx k = some gb := by simp [Gh.put]
theorem Gh.put_other (g : Gh) {k j : Nat} (gb : Gb) (h : j ≠ k) : (g.put k gb).bx j = g.bx j := by simp [Gh.put, h]

theorem BxR.none {g : Gh} {bxs : Bxs} {w : World} (h : BxR g bxs w) {k : Nat} (hk : find bxs k = none) : g.bx k = none := by
  cases e : g.bx k with
  | none => rfl
  | some gb => have := h.dom k gb e; rw [hk] at this; cases this

theorem ext_put {g : Gh} {k : Nat} (gb : Gb) (hk : g.bx k = none) : ExtBut none g (g.put k gb) :=
  ⟨fun _ _ _ h => h, fun j gb' _ h => by
    by_cases e : j = k
    · subst e; rw [hk] at h; cases h
    · rw [Gh.put_other _ _ e]; exact h, fun _ _ h _ => nomatch h⟩

/-- A new box. -/
theorem StR.add {g : Gh} {s : St} {tm : Array Value} {tms : List (Array Value)} {w w' : World} (h : StR g s tm tms w) {key : Nat} (hk : find s.bxs key = none)
    (hw : w.grownBy w' none) (b : Box) (gb : Gb) (hb : BoxR (g.put key gb) b gb w') (ho : ∀ blk, gb.blk = some blk → gb.own = true → w.heap.size ≤ blk) :
    StR (g.put key gb) ((Eff.add key b).apply s) tm tms w' ∧ Tr g w (g.put key gb) w' ∧ ExtBut none g (g.put key gb) := by
  have hn := h.bxs.none hk
  have hx := ext_put gb hn
  have hh : ∀ b, b < w.heap.size → w'.heap[b]? = w.heap[b]? := fun b hb => hw.block b hb (by simp)
  have hg := h.grow hh
  refine ⟨⟨hg.env.grow hx, hg.stk.grow hx, ⟨?_, ?_, ?_⟩, fun b o v e => hg.fz b o v e⟩, ⟨hw.os, hw.tape, hw.output, hw.size, fun _ _ _ h => h, fun _ _ h => .inl h, ?_, fun b h1 _ => hh b h1⟩, hx⟩
  · intro k b' e
    simp only [Eff.apply] at e
    by_cases hkk : key = k
    · subst hkk
      rw [find_cons_same] at e
      cases e
      exact ⟨gb, Gh.put_same _ _ _, hb⟩
    · rw [find_cons_other _ _ hkk] at e
      obtain ⟨gb', e1, e2⟩ := hg.bxs.box k b' e
      refine ⟨gb', by rw [Gh.put_other _ _ (Ne.symm hkk)]; exact e1, e2.ext hx (fun _ _ _ => rfl) (fun _ _ _ _ h => h) ?_⟩
      exact boxClear_none _
  · intro k gb' e
    simp only [Eff.apply]
    by_cases hkk : key = k
    · subst hkk; rw [find_cons_same]; rfl
    · rw [Gh.put_other _ _ (Ne.symm hkk)] at e
      rw [find_cons_other _ _ hkk]
      exact h.bxs.dom k gb' e
  · have hlt : ∀ k a blk, g.bx k = some a → a.blk = some blk → a.own = true → blk < w.heap.size := fun k a blk e1 e2 e3 => h.bxs.lt ⟨k, a, e1, e2, e3⟩
    intro k j a b' blk hne e1 e2 a1 a2 b1 b2
    by_cases hk1 : k = key
    · subst hk1
      rw [Gh.put_same] at e1
      cases e1
      rw [Gh.put_other _ _ (Ne.symm hne)] at e2
      have := ho blk a1 a2
      have := hlt j b' blk e2 b1 b2
      omega
    · rw [Gh.put_other _ _ hk1] at e1
      by_cases hj : j = key
      · subst hj
        rw [Gh.put_same] at e2
        cases e2
        have := ho blk b1 b2
        have := hlt k a blk e1 a1 a2
        omega
      · rw [Gh.put_other _ _ hj] at e2
        exact h.bxs.sep k j a b' blk hne e1 e2 a1 a2 b1 b2
  · rintro b' ⟨k, a, e1, e2, e3⟩
    by_cases hk1 : k = key
    · subst hk1
      rw [Gh.put_same] at e1
      cases e1
      exact .inr (ho b' e2 e3)
    · rw [Gh.put_other _ _ hk1] at e1
      exact .inl ⟨k, a, e1, e2, e3⟩

/-- The cells of one block, kept for good. -/
def Gh.freeze (g : Gh) (blk : Nat) (cs : List Value) : Gh := { fz := fun b o => if b = blk then cs[o]? else g.fz b o, bx := g.bx }

theorem grownBy_drew_alloc (w : World) (o : Obj) : w.grownBy (w.drew.alloc o) none :=
  ⟨rfl, rfl, rfl, by simp, fun k hk _ => by show (w.heap.push o)[k]? = w.heap[k]?; rw [Array.getElem?_push, if_neg (by omega)]⟩

/-- A new block whose cells are kept for good. -/
theorem StR.lit {g : Gh} {s : St} {tm : Array Value} {tms : List (Array Value)} {w : World} (h : StR g s tm tms w) (cs : List Value) (e : TypeId) :
    let w' := w.alloc (.cells cs.toArray e)
    let g' := g.freeze w.heap.size cs
    StR g' s tm tms w' ∧ Tr g w g' w' ∧ ExtBut none g g' ∧ Fz g'.fz w.heap.size 0 cs := by
  intro w' g'
  have hnf : ∀ o, g.fz w.heap.size o = none := fun o => by
    cases e : g.fz w.heap.size o with
    | none => rfl
    | some v => have := h.fz.lt (b := w.heap.size) (o := o) (by rw [e]; simp); omega
  have hx : ExtBut none g g' := ⟨fun k o v e => by
      show (if k = w.heap.size then cs[o]? else g.fz k o) = some v
      by_cases hk : k = w.heap.size
      · subst hk; rw [hnf] at e; cases e
      · rw [if_neg hk]; exact e, fun _ _ _ h => h, fun _ _ h _ => nomatch h⟩
  have hgr : w.grownBy w' none := World.grownBy_alloc w _ none
  have hh : ∀ b, b < w.heap.size → w'.heap[b]? = w.heap[b]? := fun b hb => hgr.block b hb (by simp)
  have hg := h.grow hh
  refine ⟨⟨hg.env.grow hx, hg.stk.grow hx, ⟨?_, fun k gb e => h.bxs.dom k gb e, fun k j a b blk hne e1 e2 => h.bxs.sep k j a b blk hne e1 e2⟩, ?_⟩,
    ⟨hgr.os, hgr.tape, hgr.output, hgr.size, hx.fz, ?_, fun b ⟨k, gb, e1, e2⟩ => .inl ⟨k, gb, e1, e2⟩, fun b hb _ => hh b hb⟩, hx, ?_⟩
  · intro k b e1
    obtain ⟨gb, e2, e3⟩ := hg.bxs.box k b e1
    refine ⟨gb, e2, e3.ext hx (fun _ _ _ => rfl) (fun blk k1 k2 o k3 => ?_) ?_⟩
    · have hlt := h.bxs.lt ⟨k, gb, e2, k1, k2⟩
      show (if blk = w.heap.size then cs[o]? else g.fz blk o) = none
      rw [if_neg (by omega)]
      exact k3
    · exact boxClear_none _
  · intro b o v e1
    have e1' : (if b = w.heap.size then cs[o]? else g.fz b o) = some v := e1
    by_cases hb : b = w.heap.size
    · subst hb
      rw [if_pos rfl] at e1'
      rw [(blkIs_alloc w cs e).cell o]
      exact e1'
    · rw [if_neg hb] at e1'
      exact hg.fz b o v e1'
  · intro b o e1
    have e1' : (if b = w.heap.size then cs[o]? else g.fz b o) ≠ none := e1
    by_cases hb : b = w.heap.size
    · exact .inr (.inl (by omega))
    · rw [if_neg hb] at e1'
      exact .inl e1'
  · intro j v e1
    show (if w.heap.size = w.heap.size then cs[0 + j]? else g.fz w.heap.size (0 + j)) = some v
    rw [if_pos rfl, Nat.zero_add]
    exact e1

/-- A store into a box. -/
theorem StR.upd {g : Gh} {s : St} {tm : Array Value} {tms : List (Array Value)} {w w' : World} (h : StR g s tm tms w) {k : Nat}
    {gb : Gb} (hg : g.bx k = some gb) {blk : Nat} (hb : gb.blk = some blk) (ho : gb.own = true) (hf : ∀ o, g.fz blk o = none)
    (os : w'.os = w.os) (tape : w'.tape = w.tape) (output : w'.output = w.output) (size : w.heap.size ≤ w'.heap.size) (hw : ∀ b, b ≠ blk → b < w.heap.size → w'.heap[b]? = w.heap[b]?)
    (b1 : Box) (hb1 : BoxR g b1 gb w') : StR g ((Eff.upd k b1).apply s) tm tms w' ∧ Tr g w g w' := by
  refine ⟨⟨h.env, h.stk, ⟨?_, ?_, h.bxs.sep⟩, ?_⟩, ⟨os, tape, output, size, fun _ _ _ h => h, fun _ _ h => .inl h, fun _ h => .inl h, fun b h1 h2 => hw b (fun e => ?_) h1⟩⟩
  · intro j b e
    simp only [Eff.apply] at e
    by_cases hj : k = j
    · subst hj
      rw [find_setB_same] at e
      cases e
      exact ⟨gb, hg, hb1⟩
    · rw [find_setB_other _ _ hj] at e
      obtain ⟨gb', e1, e2⟩ := h.bxs.box j b e
      refine ⟨gb', e1, e2.ext (ExtBut.refl g) (fun blk' k1 k2 => hw blk' (fun e => ?_) (h.bxs.lt ⟨j, gb', e1, k1, k2⟩)) (fun _ _ _ _ h => h) ?_⟩
      · subst e
        exact h.bxs.sep k j gb gb' blk' hj hg e1 hb ho k1 k2
      · exact boxClear_none _
  · intro j gb' e
    simp only [Eff.apply]
    by_cases hj : k = j
    · subst hj; rw [find_setB_same]; rfl
    · rw [find_setB_other _ _ hj]; exact h.bxs.dom j gb' e
  · intro b o v e
    by_cases hbb : b = blk
    · subst hbb; rw [hf] at e; cases e
    · have h1 := h.fz b o v e
      rw [← h1]
      exact World.cell?_of_block (hw b hbb (World.block_lt_of_cell? w _ h1))
  · subst e
    exact h2 ⟨k, gb, hg, hb, ho⟩

/-- A row grows. -/
theorem StR.app {g : Gh} {s : St} {tm : Array Value} {tms : List (Array Value)} {w w' : World} (h : StR g s tm tms w) {k : Nat}
    {gb : Gb} (hg : g.bx k = some gb) (hr : gb.isRow = true)
    (fz' : Nat → Nat → Option Value) (gb' : Gb) (hfz : ∀ b o v, g.fz b o = some v → fz' b o = some v)
    (hnew : ∀ b o, fz' b o ≠ none → g.fz b o ≠ none ∨ w.heap.size ≤ b ∨ (gb.blk = some b ∧ gb.own = true))
    (hok : FzOK ⟨fz', fun j => if j = k then some gb' else g.bx j⟩ w')
    (os : w'.os = w.os) (tape : w'.tape = w.tape) (output : w'.output = w.output) (size : w.heap.size ≤ w'.heap.size)
    (hw : ∀ b, ¬ (gb.blk = some b ∧ gb.own = true) → b < w.heap.size → w'.heap[b]? = w.heap[b]?)
    (ho : ∀ blk, gb'.blk = some blk → gb'.own = true → w.heap.size ≤ blk ∨ (gb.blk = some blk ∧ gb.own = true))
    (b1 : Box) (hb1 : BoxR ⟨fz', fun j => if j = k then some gb' else g.bx j⟩ b1 gb' w') :
    let g' : Gh := ⟨fz', fun j => if j = k then some gb' else g.bx j⟩
    StR g' ((Eff.app k b1).apply s) tm tms w' ∧ Tr g w g' w' ∧ ExtBut (some k) g g' := by
  intro g'
  have hx : ExtBut (some k) g g' := ⟨hfz, fun j a hj e => by
      show (if j = k then some gb' else g.bx j) = some a
      rw [if_neg (fun e => hj (by rw [e]))]
      exact e, fun j a hj e => by cases hj; rw [hg] at e; cases e; exact hr⟩
  have other : ∀ j, j ≠ k → g'.bx j = g.bx j := fun j hj => by show (if j = k then some gb' else g.bx j) = _; rw [if_neg hj]
  have same : g'.bx k = some gb' := by show (if k = k then some gb' else g.bx k) = _; rw [if_pos rfl]
  refine ⟨⟨h.env.stale hx, h.stk.stale hx, ⟨?_, ?_, ?_⟩, hok⟩, ⟨os, tape, output, size, hfz, ?_, ?_, fun b h1 h2 => hw b (fun e => h2 ⟨k, gb, hg, e.1, e.2⟩) h1⟩, hx⟩
  · intro j b e
    simp only [Eff.apply] at e
    by_cases hj : k = j
    · subst hj
      rw [find_setB_same] at e
      cases e
      exact ⟨gb', same, hb1⟩
    · rw [find_setB_other _ _ hj, find_staleB] at e
      cases hf : find s.bxs j with
      | none => rw [hf] at e; cases e
      | some c =>
        rw [hf] at e
        cases e
        obtain ⟨a, e1, e2⟩ := h.bxs.box j c hf
        have hsep : ∀ blk, a.blk = some blk → a.own = true → ¬ (gb.blk = some blk ∧ gb.own = true) := fun blk k1 k2 k3 => h.bxs.sep k j gb a blk hj hg e1 k3.1 k3.2 k1 k2
        have hlt : ∀ blk, a.blk = some blk → a.own = true → blk < w.heap.size := fun blk k1 k2 => h.bxs.lt ⟨j, a, e1, k1, k2⟩
        refine ⟨a, by rw [other j (Ne.symm hj)]; exact e1, e2.extStale hx (fun blk k1 k2 => hw blk (hsep blk k1 k2) (hlt blk k1 k2)) (fun blk k1 k2 o k3 => ?_)⟩
        cases hz : fz' blk o with
        | none => exact hz
        | some v =>
          rcases hnew blk o (by rw [hz]; simp) with h1 | h1 | h1
          · exact absurd k3 h1
          · have := hlt blk k1 k2; omega
          · exact (hsep blk k1 k2 h1).elim
  · intro j a e
    simp only [Eff.apply]
    by_cases hj : k = j
    · subst hj; rw [find_setB_same]; rfl
    · rw [other j (Ne.symm hj)] at e
      rw [find_setB_other _ _ hj, find_staleB, Option.isSome_map]
      exact h.bxs.dom j a e
  · have key : ∀ j a blk, j ≠ k → g.bx j = some a → a.blk = some blk → a.own = true → gb'.blk = some blk → gb'.own = true → False := fun j a blk hj e1 a1 a2 b1 b2 => by
      rcases ho blk b1 b2 with h1 | h1
      · have := h.bxs.lt ⟨j, a, e1, a1, a2⟩; omega
      · exact h.bxs.sep k j gb a blk (Ne.symm hj) hg e1 h1.1 h1.2 a1 a2
    intro i j a b blk hne e1 e2 a1 a2 b1 b2
    by_cases hi : i = k
    · subst hi
      rw [same] at e1
      cases e1
      rw [other j (Ne.symm hne)] at e2
      exact key j b blk (Ne.symm hne) e2 b1 b2 a1 a2
    · rw [other i hi] at e1
      by_cases hj : j = k
      · subst hj
        rw [same] at e2
        cases e2
        exact key i a blk hi e1 a1 a2 b1 b2
      · rw [other j hj] at e2
        exact h.bxs.sep i j a b blk hne e1 e2 a1 a2 b1 b2
  · intro b o e
    rcases hnew b o e with h1 | h1 | h1
    · exact .inl h1
    · exact .inr (.inl h1)
    · exact .inr (.inr ⟨k, gb, hg, h1.1, h1.2⟩)
  · rintro b ⟨j, a, e1, e2, e3⟩
    by_cases hj : j = k
    · subst hj
      rw [same] at e1
      cases e1
      rcases ho b e2 e3 with h1 | h1
      · exact .inr h1
      · exact .inl ⟨j, gb, hg, h1.1, h1.2⟩
    · rw [other j hj] at e1
      exact .inl ⟨j, a, e1, e2, e3⟩

end Go.V
