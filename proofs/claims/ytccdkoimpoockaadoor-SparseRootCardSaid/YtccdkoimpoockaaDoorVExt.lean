/- How the relation goes on: new blocks, new boxes, stores, rows that grow. -/
import Derived.Test.YtccdkoimpoockaaDoorVRel
set_option linter.all false
set_option linter.unusedVariables false
set_option linter.unusedSectionVars false
set_option linter.unusedSimpArgs false
namespace Go.V
variable [Codes]

/-- What is known goes on, but perhaps of one row. -/
structure ExtBut (b : Option Nat) (g g' : Gh) : Prop where
  fz : ∀ k o v, g.fz k o = some v → g'.fz k o = some v
  bx : ∀ k gb, some k ≠ b → g.bx k = some gb → g'.bx k = some gb
  row : ∀ k gb, some k = b → g.bx k = some gb → gb.isRow = true

theorem ExtBut.refl (g : Gh) : ExtBut none g g := ⟨fun _ _ _ h => h, fun _ _ _ h => h, fun _ _ h _ => nomatch h⟩

def AV.clear (b : Option Nat) (v : AV) : Prop := ∀ k, b = some k → v.has k = false

theorem CapsR.ext {b : Option Nat} {g g' : Gh} (hx : ExtBut b g g') : ∀ {l : List AV} {vs : List Value}, CapsR g l vs → CapsR g' l vs
  | [], [], h => h
  | [], _ :: _, h => h.elim
  | _ :: _, [], h => h.elim
  | a :: l, v :: vs, ⟨h1, h2⟩ => by
    refine ⟨?_, h2.ext hx⟩
    unfold CapR at h1 ⊢
    split at h1
    · obtain ⟨gb, blk, e1, e2, e3⟩ := h1
      refine ⟨gb, blk, hx.bx _ _ (fun e => ?_) e1, e2, e3⟩
      have := hx.row _ _ e e1
      rw [this] at e2
      exact absurd e2 (by decide)
    · exact h1.elim

theorem GR.ext {b : Option Nat} {g g' : Gh} (hx : ExtBut b g g') {v : AV} {cs : List Value} (h : GR g v cs) (hv : v.clear b) : GR g' v cs := by
  have kp : ∀ k gb, g.bx k = some gb → gb.isRow = false → g'.bx k = some gb := fun k gb e1 e2 => hx.bx k gb (fun e => by
    have := hx.row _ _ e e1
    rw [this] at e2
    exact absurd e2 (by decide)) e1
  cases v <;> simp only [GR] at h ⊢
  case val T x => exact h.mono hx.fz
  case full T l => obtain ⟨blk, off, cs', e, h1, h2⟩ := h; exact ⟨blk, off, cs', e, h1.mono (fun x cs h => h.mono hx.fz), h2.mono hx.fz⟩
  case nn T l => obtain ⟨blk, off, cap, cs', e, h0, h1, h2⟩ := h; exact ⟨blk, off, cap, cs', e, h0, h1.mono (fun x cs h => h.mono hx.fz), h2.mono hx.fz⟩
  case ptr => obtain ⟨gb, blk, e1, e2, r⟩ := h; exact ⟨gb, blk, kp _ _ e1 e2, e2, r⟩
  case rptr k i o =>
    obtain ⟨gb, blk, e1, r⟩ := h
    refine ⟨gb, blk, hx.bx _ _ (fun e => ?_) e1, r⟩
    have := hv k e.symm
    simp [AV.has] at this
  case eptr => obtain ⟨blk, off, cs', e, h1, h2⟩ := h; exact ⟨blk, off, cs', e, h1.mono hx.fz, h2.mono hx.fz⟩
  case row k w =>
    obtain ⟨gb, v, e1, r⟩ := h
    refine ⟨gb, v, hx.bx _ _ (fun e => ?_) e1, r⟩
    have := hv k e.symm
    simp [AV.has] at this
  case vsl => obtain ⟨gb, blk, cap, e1, e2, r⟩ := h; exact ⟨gb, blk, cap, kp _ _ e1 e2, e2, r⟩
  case fn => obtain ⟨vs, e, h⟩ := h; exact ⟨vs, e, h.ext hx⟩
  case yld => obtain ⟨gb, l, e1, e2, r⟩ := h; exact ⟨gb, l, kp _ _ e1 e2, e2, r⟩
  all_goals exact h

def gsClear (b : Option Nat) (gs : List AV) : Prop := ∀ k, b = some k → hasL k gs = false

theorem GsR.ext {b : Option Nat} {g g' : Gh} (hx : ExtBut b g g') : ∀ {gs : List AV} {cs : List Value}, GsR g gs cs → gsClear b gs → GsR g' gs cs
  | [], _, h, _ => h
  | v :: gs, _, ⟨c1, c2, e, h1, h2⟩, hc => by
    refine ⟨c1, c2, e, h1.ext hx (fun k hk => ?_), h2.ext hx (fun k hk => ?_)⟩ <;> have := hc k hk <;> simp [hasL] at this
    · exact this.1
    · exact this.2

theorem VR1.ext {b : Option Nat} {g g' : Gh} (hx : ExtBut b g g') {v : AV} {c : Value} (h : VR1 g v c) (hv : v.clear b) : VR1 g' v c := by
  by_cases hs : v.single = true
  · exact (vr1_single hs).2 (((vr1_single hs).1 h).ext hx hv)
  · cases v <;> simp only [AV.single, not_true] at hs <;> try exact h
    case val T x =>
      cases T <;> simp only [not_true] at hs
      case arr n T => obtain ⟨arr, e, h⟩ := h; exact ⟨arr, e, h.mono hx.fz⟩
      all_goals exact h
    case agg gs =>
      obtain ⟨arr, e, h⟩ := h
      exact ⟨arr, e, h.ext hx (fun k hk => by have := hv k hk; simpa [AV.has] using this)⟩

theorem TsR.ext {b : Option Nat} {g g' : Gh} (hx : ExtBut b g g') : ∀ {l : List AV} {vs : List Value}, TsR g l vs → gsClear b l → TsR g' l vs
  | [], [], h, _ => h
  | [], _ :: _, h, _ => h.elim
  | _ :: _, [], h, _ => h.elim
  | a :: l, v :: vs, ⟨h1, h2⟩, hc => by
    refine ⟨h1.ext hx (fun k hk => ?_), h2.ext hx (fun k hk => ?_)⟩ <;> have := hc k hk <;> simp [hasL] at this
    · exact this.1
    · exact this.2

theorem VR.ext {b : Option Nat} {g g' : Gh} (hx : ExtBut b g g') {v : AV} {c : Value} (h : VR g v c) (hv : v.clear b) : VR g' v c := by
  cases v
  case tup vs =>
    obtain ⟨arr, e, h⟩ := h
    exact ⟨arr, e, h.ext hx (fun k hk => by have := hv k hk; simpa [AV.has] using this)⟩
  all_goals exact VR1.ext (c := c) hx (by exact h) hv

theorem clear_none (v : AV) : v.clear none := fun _ h => nomatch h
theorem gsClear_none (v : List AV) : gsClear none v := fun _ h => nomatch h

theorem VR.grow {g g' : Gh} (hx : ExtBut none g g') {v : AV} {c : Value} (h : VR g v c) : VR g' v c := h.ext hx (clear_none v)
theorem GsR.grow {g g' : Gh} (hx : ExtBut none g g') {v : List AV} {c : List Value} (h : GsR g v c) : GsR g' v c := h.ext hx (gsClear_none v)

theorem EnvR.grow {g g' : Gh} (hx : ExtBut none g g') {env : Env} {tm : Array Value} (h : EnvR g env tm) : EnvR g' env tm := fun n v e => (h n v e).grow hx

theorem StkR.grow {g g' : Gh} (hx : ExtBut none g g') : ∀ {l : List Env} {ts : List (Array Value)}, StkR g l ts → StkR g' l ts
  | [], [], h => h
  | [], _ :: _, h => h.elim
  | _ :: _, [], h => h.elim
  | _ :: _, _ :: _, ⟨h1, h2⟩ => ⟨h1.grow hx, h2.grow hx⟩

/-! ### What is stale -/
theorem has_stale (k : Nat) (v : AV) : (v.stale k).has k = false := by
  unfold AV.stale
  cases h : v.has k
  · simpa using h
  · simp [AV.has]

theorem find_staleE (k : Nat) : ∀ (env : Env) (n : Nat), find (staleE k env) n = (find env n).map (·.stale k)
  | [], _ => rfl
  | (m, v) :: l, n => by
    simp only [staleE, find]
    cases Nat.beq m n
    · simp [find_staleE k l n]
    · simp

theorem VR.stale {g g' : Gh} {b : Nat} (hx : ExtBut (some b) g g') {v : AV} {c : Value} (h : VR g v c) : VR g' (v.stale b) c := by
  unfold AV.stale
  cases hb : v.has b
  · exact h.ext hx (fun k hk => by cases hk; exact hb)
  · exact trivial

theorem EnvR.stale {g g' : Gh} {b : Nat} (hx : ExtBut (some b) g g') {env : Env} {tm : Array Value} (h : EnvR g env tm) : EnvR g' (staleE b env) tm := by
  intro n v e
  rw [find_staleE] at e
  cases hf : find env n with
  | none => rw [hf] at e; cases e
  | some u => rw [hf] at e; cases e; exact (h n u hf).stale hx

theorem StkR.stale {g g' : Gh} {b : Nat} (hx : ExtBut (some b) g g') : ∀ {l : List Env} {ts : List (Array Value)}, StkR g l ts → StkR g' (staleS b l) ts
  | [], [], h => h
  | [], _ :: _, h => h.elim
  | _ :: _, [], h => h.elim
  | _ :: _, _ :: _, ⟨h1, h2⟩ => ⟨h1.stale hx, h2.stale hx⟩

theorem GR.stale {g g' : Gh} {b : Nat} (hx : ExtBut (some b) g g') {v : AV} {cs : List Value} (h : GR g v cs) : GR g' (v.stale b) cs := by
  unfold AV.stale
  cases hb : v.has b
  · exact h.ext hx (fun k hk => by cases hk; exact hb)
  · have h1 := h.one
    have hl := h.length
    have hs : v.size = 1 := by cases v <;> simp [AV.has] at hb <;> rfl
    rw [hs] at hl
    match cs, hl with
    | [c], _ => exact ⟨c, rfl, h1 c (by simp)⟩

theorem GsR.stale {g g' : Gh} {b : Nat} (hx : ExtBut (some b) g g') : ∀ {gs : List AV} {cs : List Value}, GsR g gs cs → GsR g' (staleL b gs) cs
  | [], _, h => h
  | _ :: _, _, ⟨c1, c2, e, h1, h2⟩ => ⟨c1, c2, e, h1.stale hx, h2.stale hx⟩

/-! ### Lists of boxes -/
theorem beq_iff {a b : Nat} : Nat.beq a b = true ↔ a = b := ⟨Nat.eq_of_beq_eq_true, fun h => by subst h; exact Nat.beq_refl a⟩
theorem beq_false {a b : Nat} (h : a ≠ b) : Nat.beq a b = false := by
  cases e : Nat.beq a b
  · rfl
  · exact absurd (Nat.eq_of_beq_eq_true e) h

theorem find_cons_same {α : Type} (l : List (Nat × α)) (k : Nat) (v : α) : find ((k, v) :: l) k = some v := by simp [find]
theorem find_cons_other {α : Type} (l : List (Nat × α)) {k n : Nat} (v : α) (h : k ≠ n) : find ((k, v) :: l) n = find l n := by simp [find, beq_false h]

theorem find_setB_same : ∀ (l : Bxs) (k : Nat) (b : Box), find (setB l k b) k = some b
  | [], k, b => find_cons_same _ _ _
  | (j, c) :: l, k, b => by
    simp only [setB]
    by_cases h : j = k
    · subst h; simp [find]
    · simp only [beq_false h, cond_false]
      rw [find_cons_other _ _ h]
      exact find_setB_same l k b

theorem find_setB_other : ∀ (l : Bxs) {k n : Nat} (b : Box), k ≠ n → find (setB l k b) n = find l n
  | [], k, n, b, h => by simp [setB, find, beq_false h]
  | (j, c) :: l, k, n, b, h => by
    simp only [setB]
    by_cases hj : j = k
    · subst hj
      simp only [Nat.beq_refl, cond_true]
      rw [find_cons_other _ _ h, find_cons_other _ _ h]
    · simp only [beq_false hj, cond_false]
      by_cases hn : j = n
      · subst hn; rw [find_cons_same, find_cons_same]
      · rw [find_cons_other _ _ hn, find_cons_other _ _ hn]
        exact find_setB_other l b h

def Box.stale (k : Nat) : Box → Box
  | .var gs => .var (staleL k gs)
  | .loop u f i env => .loop u f i (staleE k env)
  | b => b

theorem find_staleB (k : Nat) : ∀ (l : Bxs) (n : Nat), find (staleB k l) n = (find l n).map (Box.stale k)
  | [], _ => rfl
  | (m, .var gs) :: l, n => by
    simp only [staleB, find]
    cases Nat.beq m n
    · simp [find_staleB k l n]
    · simp [Box.stale]
  | (m, .row T fz x) :: l, n => by
    simp only [staleB, find]
    cases Nat.beq m n
    · simp [find_staleB k l n]
    · simp [Box.stale]
  | (m, .loop u f i env) :: l, n => by
    simp only [staleB, find]
    cases Nat.beq m n
    · simp [find_staleB k l n]
    · simp [Box.stale]
  | (m, .dead) :: l, n => by
    simp only [staleB, find]
    cases Nat.beq m n
    · simp [find_staleB k l n]
    · simp [Box.stale]

/-! ### Blocks -/
theorem BlkIs.lt {w : World} {blk : Nat} {cells : List Value} (h : BlkIs w blk cells) : blk < w.heap.size := by
  obtain ⟨e, lo, hi, h, _⟩ := h
  exact (Array.getElem?_eq_some_iff.1 h).1

theorem BlkIs.same {w w' : World} {blk : Nat} {cells : List Value} (h : BlkIs w blk cells) (he : w'.heap[blk]? = w.heap[blk]?) : BlkIs w' blk cells := by
  obtain ⟨e, lo, hi, h1, h2⟩ := h
  exact ⟨e, lo, hi, he.trans h1, h2⟩

theorem BlkIs.cell {w : World} {blk : Nat} {cells : List Value} (h : BlkIs w blk cells) (o : Nat) : w.cell? ⟨blk, o, none⟩ = cells[o]? := by
  obtain ⟨e, lo, hi, h1, h2⟩ := h
  simp [World.cell?, h1]

theorem BlkIs.frozen {w : World} {blk : Nat} {cells : List Value} (h : BlkIs w blk cells) {o : Nat} (ho : o < cells.length) : w.frozen? ⟨blk, o, none⟩ = false := by
  obtain ⟨e, lo, hi, h1, h2⟩ := h
  have := h2 o ho
  simp only [World.frozen?, h1]
  cases hd : (decide (lo ≤ o) && decide (o < hi))
  · rfl
  · simp at hd
    exact absurd hd this

theorem blkIs_alloc (w : World) (cs : List Value) (e : TypeId) : BlkIs (w.alloc (.cells cs.toArray e)) w.heap.size cs :=
  ⟨e, 0, 0, heap_alloc_new w _, fun _ _ h => absurd h.2 (by omega)⟩

theorem BxR.lt {g : Gh} {bxs : Bxs} {w : World} (h : BxR g bxs w) {blk : Nat} (ho : owned g blk) : blk < w.heap.size := by
  obtain ⟨k, gb, e1, e2, e3⟩ := ho
  obtain ⟨b, hb⟩ := Option.isSome_iff_exists.1 (h.dom k gb e1)
  obtain ⟨gb', e4, hr⟩ := h.box k b hb
  rw [e1] at e4
  cases e4
  cases b with
  | var gs =>
    obtain ⟨_, _, blk', cells, e5, e6, _⟩ := hr
    rw [e2] at e5
    cases e5
    exact e6.lt
  | row T fz l =>
    obtain ⟨_, _, _, _, hr⟩ := hr
    simp only [e2, e3] at hr
    obtain ⟨cells, cs, e6, _⟩ := hr
    exact e6.lt
  | loop u f i env =>
    obtain ⟨_, _, l, _, _, _, _, e5, _, e6, _⟩ := hr
    rw [e2] at e5
    cases e5
    exact (Array.getElem?_eq_some_iff.1 e6).1
  | dead =>
    obtain ⟨_, _, l, _, e5, e6, _⟩ := hr
    rw [e2] at e5
    cases e5
    exact (Array.getElem?_eq_some_iff.1 e6).1

theorem FzOK.lt {g : Gh} {w : World} (h : FzOK g w) {b o : Nat} (hf : g.fz b o ≠ none) : b < w.heap.size := by
  cases e : g.fz b o with
  | none => exact (hf e).elim
  | some v => exact World.block_lt_of_cell? w _ (h b o v e)

/-- A box that does not name a row. -/
def boxClear (x : Option Nat) (b : Box) : Prop :=
  match b with
  | .var gs => gsClear x gs
  | .loop _ _ _ env => ∀ n v, find env n = some v → v.clear x
  | _ => True

theorem boxClear_none (b : Box) : boxClear none b := by
  cases b <;> first | trivial | exact gsClear_none _ | exact fun _ v _ => clear_none v

/-- A box, when what is known goes on and its block stays. -/
theorem BoxR.ext {x : Option Nat} {g g' : Gh} (hx : ExtBut x g g') {b : Box} {gb : Gb} {w w' : World} (h : BoxR g b gb w)
    (hw : ∀ blk, gb.blk = some blk → gb.own = true → w'.heap[blk]? = w.heap[blk]?)
    (hf : ∀ blk, gb.blk = some blk → gb.own = true → ∀ o, g.fz blk o = none → g'.fz blk o = none)
    (hc : boxClear x b) : BoxR g' b gb w' := by
  cases b with
  | var gs =>
    obtain ⟨h1, h2, blk, cells, h3, h4, h5, h6⟩ := h
    exact ⟨h1, h2, blk, cells, h3, h4.same (hw blk h3 h2), h5.ext hx hc, fun o => hf blk h3 h2 o (h6 o)⟩
  | row T fz l =>
    obtain ⟨h1, h2, h3, h4, h5⟩ := h
    refine ⟨h1, h2, h3, h4, ?_⟩
    cases hb : gb.blk with
    | none => simp only [hb] at h5 ⊢; exact h5
    | some blk =>
      cases ho : gb.own with
      | false =>
        simp only [hb, ho] at h5 ⊢
        obtain ⟨k1, k2, cs, k3, k4⟩ := h5
        exact ⟨k1, k2, cs, k3.mono (fun x cs h => h.mono hx.fz), k4.mono hx.fz⟩
      | true =>
        simp only [hb, ho] at h5 ⊢
        obtain ⟨cells, cs, k1, k2, k3, k4, k5, k6⟩ := h5
        exact ⟨cells, cs, k1.same (hw blk hb ho), k2, k3.mono (fun x cs h => h.mono hx.fz), k4, fun e o => hf blk hb ho o (k5 e o),
          fun e => ⟨(k6 e).1.mono hx.fz, fun o h => hf blk hb ho o ((k6 e).2 o h)⟩⟩
  | loop u f i env =>
    obtain ⟨h1, h2, l, tm, D, fn, cd, h3, h7, h4, h5, h6⟩ := h
    exact ⟨h1, h2, l, tm, D, fn, cd, h3, h7, (hw l h3 h2).trans h4, fun n v e => (h5 n v e).ext hx (hc n v e), h6.1, fun o => hf l h3 h2 o (h6.2 o)⟩
  | dead =>
    obtain ⟨h1, h2, l, o, h3, h4, h6⟩ := h
    exact ⟨h1, h2, l, o, h3, (hw l h3 h2).trans h4, fun o => hf l h3 h2 o (h6 o)⟩

theorem BoxR.extStale {x : Nat} {g g' : Gh} (hx : ExtBut (some x) g g') {b : Box} {gb : Gb} {w w' : World} (h : BoxR g b gb w)
    (hw : ∀ blk, gb.blk = some blk → gb.own = true → w'.heap[blk]? = w.heap[blk]?)
    (hf : ∀ blk, gb.blk = some blk → gb.own = true → ∀ o, g.fz blk o = none → g'.fz blk o = none) : BoxR g' (b.stale x) gb w' := by
  cases b with
  | var gs =>
    obtain ⟨h1, h2, blk, cells, h3, h4, h5, h6⟩ := h
    exact ⟨h1, h2, blk, cells, h3, h4.same (hw blk h3 h2), h5.stale hx, fun o => hf blk h3 h2 o (h6 o)⟩
  | row T fz l => exact h.ext hx hw hf trivial
  | loop u f i env =>
    obtain ⟨h1, h2, l, tm, D, fn, cd, h3, h7, h4, h5, h6⟩ := h
    have he : EnvR g' (staleE x env) tm := EnvR.stale hx h5
    exact ⟨h1, h2, l, tm, D, fn, cd, h3, h7, (hw l h3 h2).trans h4, he, h6.1, fun o => hf l h3 h2 o (h6.2 o)⟩
  | dead => exact h.ext hx hw hf trivial

/-! ### The heap grows -/
theorem FzOK.grow {g : Gh} {w w' : World} (h : FzOK g w) (hb : ∀ b, b < w.heap.size → w'.heap[b]? = w.heap[b]?) : FzOK g w' := fun b o v e => by
  have h1 := h b o v e
  have h2 := World.block_lt_of_cell? w _ h1
  rw [← h1]
  exact World.cell?_of_block (hb b h2)

theorem BxR.grow {g : Gh} {bxs : Bxs} {w w' : World} (h : BxR g bxs w) (hb : ∀ b, b < w.heap.size → w'.heap[b]? = w.heap[b]?) : BxR g bxs w' where
  box := fun k b e => by
    obtain ⟨gb, h1, h2⟩ := h.box k b e
    refine ⟨gb, h1, h2.ext (ExtBut.refl g) (fun blk e1 e2 => hb blk (h.lt ⟨k, gb, h1, e1, e2⟩)) (fun _ _ _ _ h => h) ?_⟩
    exact boxClear_none _
  dom := h.dom
  sep := h.sep

theorem StR.grow {g : Gh} {s : St} {tm : Array Value} {tms : List (Array Value)} {w w' : World} (h : StR g s tm tms w) (hb : ∀ b, b < w.heap.size → w'.heap[b]? = w.heap[b]?) : StR g s tm tms w' :=
  ⟨h.env, h.stk, h.bxs.grow hb, h.fz.grow hb⟩

theorem Tr.grow {g : Gh} {w w' : World} (h : w.grownBy w' none) : Tr g w g w' :=
  ⟨h.os, h.tape, h.output, h.size, fun _ _ _ h => h, fun _ _ h => .inl h, fun _ h => .inl h, fun b hb _ => h.block b hb (by simp)⟩

end Go.V
