/- Slots; rows that are frozen; calls of pure functions. -/
import Derived.Test.YtccdkoimpoockaaDoorVExec
set_option linter.all false
set_option linter.unusedVariables false
set_option linter.unusedSectionVars false
set_option linter.unusedSimpArgs false
namespace Go.V
variable [Codes]
section
variable {C : Cfg} {P : Program}

theorem getD_set {α : Type} (tm : Array α) (d n : Nat) (z u : α) : (tm.setIfInBounds d z).getD n u = if d = n ∧ d < tm.size then z else tm.getD n u := by
  simp only [Array.getD_eq_getD_getElem?, Array.getElem?_setIfInBounds]
  split
  · rename_i h
    subst h
    split
    · rename_i h; simp [h]
    · rename_i h; simp [h]
  · rename_i h; simp [h]

theorem EnvR.put {g : Gh} {env : Env} {tm : Array Value} (h : EnvR g env tm) {d : Nat} (hd : d < tm.size) {v : AV} {z : Value} (hv : VR g v z) : EnvR g ((d, v) :: env) (tm.setIfInBounds d z) := by
  intro n u e
  rw [getD_set]
  by_cases hn : d = n
  · subst hn
    rw [find_cons_same] at e
    cases e
    rw [if_pos ⟨rfl, hd⟩]
    exact hv
  · rw [find_cons_other _ _ hn] at e
    rw [if_neg (fun h => hn h.1)]
    exact h n u e

theorem StR.put {g : Gh} {s : St} {tm : Array Value} {tms : List (Array Value)} {w : World} (h : StR g s tm tms w) {dst : Option Nat} (hd : ∀ d, dst = some d → d < tm.size) {v : AV} {z : Value} (hv : VR g v z) (ds : List Deferred) :
    StR g { s with env := putE dst v s.env } (Act.put ⟨tm, ds⟩ dst z).tmps tms w := by
  cases dst with
  | none => exact h
  | some d => exact ⟨h.env.put (hd d rfl) hv, h.stk, h.bxs, h.fz⟩

theorem put_defers (tm : Array Value) (ds : List Deferred) (dst : Option Nat) (z : Value) : Act.put ⟨tm, ds⟩ dst z = ⟨(Act.put ⟨tm, ds⟩ dst z).tmps, ds⟩ := by
  cases dst <;> rfl
theorem put_size (tm : Array Value) (ds : List Deferred) (dst : Option Nat) (z : Value) : (Act.put ⟨tm, ds⟩ dst z).tmps.size = tm.size := by
  cases dst with
  | none => rfl
  | some d => simp [Act.put]

/-- What is kept grows, in new blocks. -/
theorem StR.ghost {g : Gh} {s : St} {tm : Array Value} {tms : List (Array Value)} {w w' : World} (h : StR g s tm tms w) {fz' : Nat → Nat → Option Value}
    (hfz : ∀ b o v, g.fz b o = some v → fz' b o = some v) (hnew : ∀ b o, fz' b o ≠ none → g.fz b o ≠ none ∨ w.heap.size ≤ b) (hok : FzOK ⟨fz', g.bx⟩ w')
    (os : w'.os = w.os) (tape : w'.tape = w.tape) (output : w'.output = w.output) (size : w.heap.size ≤ w'.heap.size) (hw : ∀ b, b < w.heap.size → w'.heap[b]? = w.heap[b]?) :
    StR ⟨fz', g.bx⟩ s tm tms w' ∧ Tr g w ⟨fz', g.bx⟩ w' := by
  have hx : ExtBut none g ⟨fz', g.bx⟩ := ⟨hfz, fun _ _ _ h => h, fun _ _ h _ => nomatch h⟩
  have hg := h.grow hw
  refine ⟨⟨hg.env.grow hx, hg.stk.grow hx, ⟨?_, fun k gb e => h.bxs.dom k gb e, fun k j a b blk hne e1 e2 => h.bxs.sep k j a b blk hne e1 e2⟩, hok⟩,
    ⟨os, tape, output, size, hfz, fun b o e => (hnew b o e).imp id .inl, fun b ⟨k, gb, e1, e2⟩ => .inl ⟨k, gb, e1, e2⟩, fun b hb _ => hw b hb⟩⟩
  intro k b e1
  obtain ⟨gb, e2, e3⟩ := hg.bxs.box k b e1
  refine ⟨gb, e2, e3.ext hx (fun _ _ _ => rfl) (fun blk k1 k2 o k3 => ?_) ?_⟩
  · have hlt := h.bxs.lt ⟨k, gb, e2, k1, k2⟩
    cases hz : fz' blk o with
    | none => exact hz
    | some v =>
      rcases hnew blk o (by rw [hz]; simp) with h1 | h1
      · exact absurd k3 h1
      · omega
  · exact boxClear_none _

/-- A row is frozen. -/
theorem StR.frzB {g : Gh} {s : St} {tm : Array Value} {tms : List (Array Value)} {w : World} (h : StR g s tm tms w) (b : Nat) :
    ∃ fz', StR ⟨fz', g.bx⟩ { s with bxs := frzB s.bxs b } tm tms w ∧ Tr g w ⟨fz', g.bx⟩ w := by
  unfold V.frzB
  split
  case h_2 => exact ⟨g.fz, h, Tr.refl g w⟩
  rename_i T l hf
  obtain ⟨gb, hgb, k1, k2, k3, k4, k5⟩ := h.bxs.box b _ hf
  -- any change of what is kept that makes the row a frozen one
  have fin : ∀ fz' : Nat → Nat → Option Value, (∀ b o v, g.fz b o = some v → fz' b o = some v) → (∀ x o, fz' x o ≠ none → g.fz x o ≠ none ∨ (gb.blk = some x ∧ gb.own = true)) → FzOK ⟨fz', g.bx⟩ w →
      BoxR ⟨fz', g.bx⟩ (.row T true l) gb w → ∃ fz', StR ⟨fz', g.bx⟩ { s with bxs := setB s.bxs b (.row T true l) } tm tms w ∧ Tr g w ⟨fz', g.bx⟩ w := by
    intro fz' hfz hnew hok hbox
    have hx : ExtBut none g ⟨fz', g.bx⟩ := ⟨hfz, fun _ _ _ h => h, fun _ _ h _ => nomatch h⟩
    refine ⟨fz', ⟨h.env.grow hx, h.stk.grow hx, ⟨?_, ?_, h.bxs.sep⟩, hok⟩, ⟨rfl, rfl, rfl, Nat.le_refl _, hfz, ?_, fun b h => .inl h, fun _ _ _ => rfl⟩⟩
    · intro j c e
      by_cases hj : b = j
      · subst hj
        simp only [find_setB_same, Option.some.injEq] at e
        subst e
        exact ⟨gb, hgb, hbox⟩
      · simp only [find_setB_other _ _ hj] at e
        obtain ⟨a, e1, e2⟩ := h.bxs.box j c e
        refine ⟨a, e1, e2.ext hx (fun _ _ _ => rfl) (fun blk k1 k2 o k3 => ?_) ?_⟩
        · cases hz : fz' blk o with
          | none => exact hz
          | some v =>
            rcases hnew blk o (by rw [hz]; simp) with h1 | h1
            · exact absurd k3 h1
            · exact (h.bxs.sep b j gb a blk hj hgb e1 h1.1 h1.2 k1 k2).elim
        · exact boxClear_none _
    · intro j a e
      by_cases hj : b = j
      · subst hj; simp only [find_setB_same]; rfl
      · simp only [find_setB_other _ _ hj]; exact h.bxs.dom j a e
    · intro x o e
      rcases hnew x o e with h1 | h1
      · exact .inl h1
      · exact .inr (.inr ⟨b, gb, hgb, h1.1, h1.2⟩)
  cases hb : gb.blk with
  | none =>
    refine fin g.fz (fun _ _ _ h => h) (fun _ _ h => .inl h) h.fz ⟨k1, k2, k3, k4, ?_⟩
    simp only [hb] at k5 ⊢
    exact k5
  | some blk =>
    cases ho : gb.own with
    | false =>
      refine fin g.fz (fun _ _ _ h => h) (fun _ _ h => .inl h) h.fz ⟨k1, k2, k3, k4, ?_⟩
      simp only [hb, ho] at k5 ⊢
      exact ⟨.inl trivial, k5.2⟩
    | true =>
      simp only [hb, ho] at k5
      obtain ⟨cells, cs, c1, c2, c3, c4, c5, _⟩ := k5
      have hno := c5 trivial
      have hold : ∀ b o v, g.fz b o = some v → fzPut g.fz blk gb.off cs b o = some v := fun b o v e => fzPut_old (fun o _ _ => hno o) e
      refine fin (fzPut g.fz blk gb.off cs) hold (fun x o e => ?_) ?_ ⟨k1, k2, k3, k4, ?_⟩
      · rcases fzPut_some e with h1 | h1
        · exact .inl h1
        · exact .inr ⟨by rw [hb, h1], ho⟩
      · intro x o v e
        show w.cell? ⟨x, o, none⟩ = some v
        have e' : fzPut g.fz blk gb.off cs x o = some v := e
        unfold fzPut at e'
        split at e'
        · rename_i hc
          obtain ⟨rfl, h1, h2⟩ := hc
          rw [c1.cell]
          have := c4 _ _ e'
          rwa [show gb.off + (o - gb.off) = o by omega] at this
        · exact h.fz x o v e'
      · simp only [hb, ho]
        refine ⟨cells, cs, c1, c2, c3.mono (fun x cs h => h.mono hold), c4, (fun e => nomatch e), (fun _ => ⟨fzPut_new, fun o h => fzPut_none (hno o) h⟩)⟩

theorem StR.frzKeys {tm : Array Value} {tms : List (Array Value)} {w : World} : ∀ (l : Bxs) {g : Gh} {s : St}, StR g s tm tms w → ∃ fz', StR ⟨fz', g.bx⟩ { s with bxs := frzKeys l s.bxs } tm tms w ∧ Tr g w ⟨fz', g.bx⟩ w
  | [], g, s, h => ⟨g.fz, h, Tr.refl g w⟩
  | (k, _) :: l, g, s, h => by
    obtain ⟨fz1, h1, t1⟩ := h.frzB k
    obtain ⟨fz2, h2, t2⟩ := StR.frzKeys l h1
    exact ⟨fz2, h2, t1.trans t2⟩

mutual
theorem StR.frz {tm : Array Value} {tms : List (Array Value)} {w : World} : ∀ (v : AV) {g : Gh} {s : St}, StR g s tm tms w → ∃ fz', StR ⟨fz', g.bx⟩ { s with bxs := V.frz s.bxs v } tm tms w ∧ Tr g w ⟨fz', g.bx⟩ w
  | .row b _, g, s, h => by simp only [V.frz]; exact h.frzB b
  | .agg gs, g, s, h => by simp only [V.frz]; exact StR.frzL gs h
  | .val _ _, g, s, h | .full _ _, g, s, h | .nn _ _, g, s, h | .nils, g, s, h | .tup _, g, s, h | .nilp, g, s, h | .ptr _ _ _, g, s, h | .rptr _ _ _, g, s, h | .eptr _, g, s, h | .vsl _ _ _ _ _, g, s, h
  | .fn _ _, g, s, h | .yld _, g, s, h | .nilf, g, s, h | .iface _ _, g, s, h | .nili, g, s, h | .junk, g, s, h => ⟨g.fz, by simp only [V.frz]; exact h, Tr.refl g w⟩
theorem StR.frzL {tm : Array Value} {tms : List (Array Value)} {w : World} : ∀ (vs : List AV) {g : Gh} {s : St}, StR g s tm tms w → ∃ fz', StR ⟨fz', g.bx⟩ { s with bxs := V.frzL s.bxs vs } tm tms w ∧ Tr g w ⟨fz', g.bx⟩ w
  | [], g, s, h => ⟨g.fz, by simp only [V.frzL]; exact h, Tr.refl g w⟩
  | v :: l, g, s, h => by
    obtain ⟨fz1, h1, t1⟩ := StR.frz v h
    obtain ⟨fz2, h2, t2⟩ := StR.frzL l h1
    exact ⟨fz2, by simp only [V.frzL]; exact h2, t1.trans t2⟩
end

/-! ### Typed values -/
theorem GsR.split {g : Gh} : ∀ {l m : List AV} {cs : List Value}, GsR g (l ++ m) cs → ∃ c1 c2, cs = c1 ++ c2 ∧ GsR g l c1 ∧ GsR g m c2
  | [], m, cs, h => ⟨[], cs, rfl, rfl, h⟩
  | v :: l, m, cs, ⟨c1, c2, e, h1, h2⟩ => by
    obtain ⟨d1, d2, rfl, h3, h4⟩ := h2.split
    exact ⟨c1 ++ d1, d2, by rw [e, List.append_assoc], ⟨c1, d1, rfl, h1, h3⟩, h4⟩

theorem cr_of_gsR {g : Gh} : ∀ {T : Ty} {x : T.den} {cs : List Value}, GsR g (T.gs x) cs → CR g.fz T x cs
  | .int _, _, _, ⟨c1, c2, e, h1, h2⟩ => by have h2' : c2 = [] := h2; subst h2'; simp only [List.append_nil] at e; subst e; exact h1
  | .bool, _, _, ⟨c1, c2, e, h1, h2⟩ => by have h2' : c2 = [] := h2; subst h2'; simp only [List.append_nil] at e; subst e; exact h1
  | .str, _, _, ⟨c1, c2, e, h1, h2⟩ => by have h2' : c2 = [] := h2; subst h2'; simp only [List.append_nil] at e; subst e; exact h1
  | .sl _, _, _, ⟨c1, c2, e, h1, h2⟩ => by have h2' : c2 = [] := h2; subst h2'; simp only [List.append_nil] at e; subst e; exact h1
  | .arr _ _, _, _, ⟨c1, c2, e, h1, h2⟩ => by have h2' : c2 = [] := h2; subst h2'; simp only [List.append_nil] at e; subst e; exact h1
  | .unit, _, _, h => h
  | .pair a b, x, cs, h => by
    obtain ⟨c1, c2, rfl, h1, h2⟩ := GsR.split h
    exact ⟨c1, c2, rfl, cr_of_gsR h1, cr_of_gsR h2⟩

/-- A typed value and the machine's. -/
def TV (fz : Nat → Nat → Option Value) (T : Ty) (x : T.den) (c : Value) : Prop :=
  ∃ arr : Array Value, CR fz T x arr.toList ∧ c = bif T.isAgg then .agg arr else arr.getD 0 undef

theorem TV.vr {g : Gh} {T : Ty} {x : T.den} {c : Value} (h : TV g.fz T x c) : VR1 g (T.av x) c := by
  obtain ⟨arr, h1, rfl⟩ := h
  cases T <;> exact vr_av h1

theorem tv_of_vr {g : Gh} {T : Ty} {x : T.den} {c : Value} (h : VR1 g (T.av x) c) : TV g.fz T x c := by
  cases T
  case pair a b => obtain ⟨arr, h1, h2⟩ := h; exact ⟨arr, cr_of_gsR h2, h1⟩
  case unit => obtain ⟨arr, h1, h2⟩ := h; exact ⟨arr, h2, h1⟩
  case arr n e => obtain ⟨arr, h1, h2⟩ := h; exact ⟨arr, h2, h1⟩
  all_goals exact ⟨#[c], h, rfl⟩

theorem TV.mono {fz fz' : Nat → Nat → Option Value} (hf : ∀ b o v, fz b o = some v → fz' b o = some v) {T : Ty} {x : T.den} {c : Value} (h : TV fz T x c) : TV fz' T x c := by
  obtain ⟨arr, h1, h2⟩ := h
  exact ⟨arr, h1.mono hf, h2⟩

theorem cr_scalar {fz fz' : Nat → Nat → Option Value} : ∀ {T : Ty} {x : T.den} {cs : List Value}, scalar T = true → CR fz T x cs → CR fz' T x cs
  | .int _, _, _, _, h => h
  | .bool, _, _, _, h => h
  | .str, _, _, _, h => h
  | .unit, _, _, _, h => h
  | .sl _, _, _, hs, _ => by simp [scalar] at hs
  | .pair a b, x, cs, hs, ⟨c1, c2, e, h1, h2⟩ => by
    simp only [scalar, Bool.and_eq_true] at hs
    exact ⟨c1, c2, e, cr_scalar hs.1 h1, cr_scalar hs.2 h2⟩
  | .arr n e, l, cs, hs, ⟨h1, h2⟩ => ⟨h1, Elems.mono (R := CR fz e) (fun x cs h => cr_scalar (show scalar e = true from hs) h) h2⟩

theorem TV.scalar {fz fz' : Nat → Nat → Option Value} {T : Ty} (hs : V.scalar T = true) {x : T.den} {c : Value} (h : TV fz T x c) : TV fz' T x c := by
  obtain ⟨arr, h1, h2⟩ := h
  exact ⟨arr, cr_scalar hs h1, h2⟩

/-- Typed values, in a row. -/
def TVs (fz : Nat → Nat → Option Value) : (l : List Ty) → tysDen l → List Value → Prop
  | [], _, cs => cs = []
  | T :: l, x, c :: cs => TV fz T x.1 c ∧ TVs fz l x.2 cs
  | _ :: _, _, [] => False

theorem TVs.mono {fz fz' : Nat → Nat → Option Value} (hf : ∀ b o v, fz b o = some v → fz' b o = some v) : ∀ {l : List Ty} {x : tysDen l} {cs : List Value}, TVs fz l x cs → TVs fz' l x cs
  | [], _, _, h => h
  | _ :: _, _, _ :: _, ⟨h1, h2⟩ => ⟨h1.mono hf, h2.mono hf⟩
  | _ :: _, _, [], h => h.elim

theorem TVs.scalar {fz fz' : Nat → Nat → Option Value} : ∀ {l : List Ty} {x : tysDen l} {cs : List Value}, l.all V.scalar = true → TVs fz l x cs → TVs fz' l x cs
  | [], _, _, _, h => h
  | _ :: _, _, _ :: _, hs, ⟨h1, h2⟩ => by
    simp only [List.all_cons, Bool.and_eq_true] at hs
    exact ⟨h1.scalar hs.1, h2.scalar hs.2⟩
  | _ :: _, _, [], _, h => h.elim

theorem TVs.vsR {g : Gh} : ∀ {l : List Ty} {x : tysDen l} {cs : List Value}, TVs g.fz l x cs → VsR g (tysAV l x) cs
  | [], _, _, h => by have : _ = [] := h; subst this; exact trivial
  | _ :: _, _, _ :: _, ⟨h1, h2⟩ => ⟨h1.vr.vr', h2.vsR⟩
  | _ :: _, _, [], h => h.elim

theorem TVs.tsR {g : Gh} : ∀ {l : List Ty} {x : tysDen l} {cs : List Value}, TVs g.fz l x cs → TsR g (tysAV l x) cs
  | [], _, _, h => by have : _ = [] := h; subst this; exact trivial
  | _ :: _, _, _ :: _, ⟨h1, h2⟩ => ⟨h1.vr, h2.tsR⟩
  | _ :: _, _, [], h => h.elim

/-- The value of a function's results. -/
def resVal : List Value → Value
  | [c] => c
  | l => .tuple l.toArray

theorem TVs.res {g : Gh} {l : List Ty} {x : tysDen l} {cs : List Value} (h : TVs g.fz l x cs) : VR g (resAV l x) (resVal cs) := by
  match l, x, cs, h with
  | [], _, cs, h => have : cs = [] := h; subst this; exact ⟨#[], rfl, trivial⟩
  | [T], x, [c], ⟨h1, _⟩ => exact h1.vr.vr'
  | T :: S :: l, x, c :: d :: cs, h => exact ⟨(c :: d :: cs).toArray, rfl, h.tsR⟩
  | [T], x, _ :: _ :: _, ⟨_, h⟩ => cases h
  | _ :: _ :: _, _, [_], ⟨_, h⟩ => exact h.elim

theorem conv_single {bxs : Bxs} {T : Ty} (hT : T.isAgg = false) {v : AV} {x : T.den} (h : conv bxs T v = some x) : v.single = true := by
  unfold conv at h
  split at h
  · rename_i S y
    split at h
    · rename_i hS
      subst hS
      cases S <;> first | rfl | (simp [Ty.isAgg] at hT)
    · cases h
  · rfl
  · rfl
  · rfl
  · rfl
  · cases h

/-- A value of the machine that reads as a typed one. -/
theorem norm_tv {g : Gh} {bxs : Bxs} {w : World} (hb : BxW g bxs w) (hf : FzOK g w) {T : Ty} {v : AV} {x : T.den} (h : norm bxs T v = some x) {c : Value} (hv : VR g v c) : TV g.fz T x c := by
  obtain ⟨hr, ha⟩ := norm_some h
  cases hT : T.isAgg with
  | true =>
    rw [hT] at ha
    have key : ∀ arr : Array Value, c = .agg arr → GsR g v.gs arr.toList → TV g.fz T x c := by
      intro arr hc hg
      have := norm_ok hb hf h hg
      refine ⟨arr, this, ?_⟩
      cases T <;> first | exact hc | (simp [Ty.isAgg] at hT)
    cases v <;> simp only [AV.isAgg, Bool.false_eq_true] at ha
    case val S l =>
      cases S <;> simp only [AV.isAgg, Bool.false_eq_true] at ha
      obtain ⟨arr, h1, h2⟩ := hv
      exact key arr h1 ⟨arr.toList, [], by simp, h2, rfl⟩
    case agg gs =>
      obtain ⟨arr, h1, h2⟩ := hv
      exact key arr h1 h2
  | false =>
    rw [hT] at ha
    have hgs : v.gs = [v] := by cases v <;> first | rfl | (simp [AV.isAgg] at ha)
    rw [hgs] at hr
    have hc : conv bxs T v = some x := by
      cases T <;> first
        | (simp [Ty.isAgg] at hT; done)
        | (simp only [Ty.rd] at hr
           split at hr
           · rename_i y hy
             simp only [Option.some.injEq, Prod.mk.injEq, and_true] at hr
             rw [hy, hr]
           · cases hr)
    have hs := conv_single hT hc
    have hok : v.okGs = true := by cases v <;> first | rfl | (simp [AV.single] at hs)
    have hg := (vr1_single hs).1 (VR.vr1 hok hv)
    have := norm_ok hb hf h (cs := [c]) (by rw [hgs]; exact ⟨[c], [], rfl, hg, rfl⟩)
    refine ⟨#[c], this, ?_⟩
    cases T <;> first | rfl | (simp [Ty.isAgg] at hT)

theorem argsK_ok {R : Type} {g : Gh} {bxs : Bxs} {w : World} (hb : BxW g bxs w) (hf : FzOK g w) : ∀ {l : List Ty} {vs : List AV} {K : tysDen l → Option R} {r : R} {cs : List Value}, argsK bxs l vs K = some r → VsR g vs cs → ∃ x, K x = some r ∧ TVs g.fz l x cs
  | [], [], K, r, [], h, _ => ⟨(), h, rfl⟩
  | [], [], _, _, _ :: _, _, h => h.elim
  | T :: l, v :: vs, K, r, c :: cs, h, ⟨h1, h2⟩ => by
    simp only [argsK] at h
    split at h
    · rename_i x hx
      obtain ⟨y, h3, h4⟩ := argsK_ok hb hf h h2
      exact ⟨(x, y), h3, norm_tv hb hf hx h1, h4⟩
    · cases h
  | T :: l, v :: vs, _, _, [], _, h => h.elim
  | [], _ :: _, _, _, _, h, _ => by simp [argsK] at h
  | _ :: _, [], _, _, _, h, _ => by simp [argsK] at h

/-! ### Pure functions -/
def Gh.of (fz : Nat → Nat → Option Value) : Gh := ⟨fz, fun _ => none⟩

/-- What a pure function does. -/
def PureOK (P : Program) (C : Cfg) (f : FuncId) (p : PSpec) : Prop :=
  ∀ fz w (args : Array Value) x y, GlobOK C fz → FzOK (.of fz) w → TVs fz p.args x args.toList → p.fn x = some y →
    Calls P f args w fun e w' => ∃ cs fz', e = .returned (resVal cs) ∧ TVs fz' p.res y cs ∧ FzOK (.of fz') w' ∧ Tr (.of fz) w (.of fz') w'

/-- What a call in a running function does. -/
def CallsTo {R : Type} (P : Program) (f : FuncId) (vals : Array Value) (g : Gh) (tm : Array Value) (tms : List (Array Value)) (w : World) (K : AV → St → Option R) (r : R) : Prop :=
  Calls P f vals w fun e w' => ∃ v av s' g', e = .returned v ∧ K av s' = some r ∧ VR g' av v ∧ StR g' s' tm tms w' ∧ Tr g w g' w'

theorem not_owned (fz : Nat → Nat → Option Value) (b : Nat) : ¬ owned (.of fz) b := fun ⟨_, _, h, _⟩ => nomatch h

theorem callP_ok {R : Type} {f : FuncId} {p : PSpec} (hp : PureOK P C f p) {g : Gh} {s : St} {tm : Array Value} {tms : List (Array Value)} {w : World} (hs : StR g s tm tms w) (hG : GlobOK C g.fz) {args : List AV} {K : AV → St → Option R} {r : R}
    (h : callP p args s K = some r) {vals : Array Value} (hv : VsR g args vals.toList) : CallsTo P f vals g tm tms w K r := by
  have hvm : ∀ {l : List AV} {cs : List Value} {g' : Gh}, ExtBut none g g' → VsR g l cs → VsR g' l cs := by
    intro l
    induction l with
    | nil => intro cs g' _ h; cases cs <;> exact h
    | cons v l ih =>
      intro cs g' hx h
      cases cs with
      | nil => exact h.elim
      | cons c cs => exact ⟨h.1.grow hx, ih hx h.2⟩
  unfold callP at h
  simp only at h
  cases hsc : p.res.all scalar with
  | true =>
    simp only [hsc, cond_true] at h
    obtain ⟨fz1, h1, t1⟩ := StR.frzKeys s.bxs hs
    have hx : ExtBut none g ⟨fz1, g.bx⟩ := ⟨t1.fz, fun _ _ _ h => h, fun _ _ h _ => nomatch h⟩
    obtain ⟨x, h2, h3⟩ := argsK_ok h1.bxs.w h1.fz h (hvm hx hv)
    rw [Option.bind_eq_some_iff] at h2
    obtain ⟨y, hy, hK⟩ := h2
    refine Calls.mono (hp fz1 w vals x y (hG.mono t1.fz) h1.fz h3 hy) ?_
    rintro e w' ⟨cs, fz2, rfl, h4, h5, t2⟩
    have hw : ∀ b, b < w.heap.size → w'.heap[b]? = w.heap[b]? := fun b hb => t2.block b hb (not_owned _ _)
    refine ⟨_, _, s, g, rfl, hK, (TVs.scalar (fz' := g.fz) hsc h4).res, hs.grow hw, ⟨t2.os, t2.tape, t2.output, t2.size, fun _ _ _ h => h, fun _ _ h => .inl h, fun _ h => .inl h, fun b hb _ => hw b hb⟩⟩
  | false =>
    simp only [hsc, cond_false] at h
    obtain ⟨fz1, h1, t1⟩ := StR.frzL args hs
    have hx : ExtBut none g ⟨fz1, g.bx⟩ := ⟨t1.fz, fun _ _ _ h => h, fun _ _ h _ => nomatch h⟩
    obtain ⟨x, h2, h3⟩ := argsK_ok h1.bxs.w h1.fz h (hvm hx hv)
    rw [Option.bind_eq_some_iff] at h2
    obtain ⟨y, hy, hK⟩ := h2
    refine Calls.mono (hp fz1 w vals x y (hG.mono t1.fz) h1.fz h3 hy) ?_
    rintro e w' ⟨cs, fz2, rfl, h4, h5, t2⟩
    have hw : ∀ b, b < w.heap.size → w'.heap[b]? = w.heap[b]? := fun b hb => t2.block b hb (not_owned _ _)
    obtain ⟨h6, t3⟩ := h1.ghost (fz' := fz2) t2.fz (fun b o e => by
      rcases t2.fzNew b o e with h | h | h
      · exact .inl h
      · exact .inr h
      · exact (not_owned _ _ h).elim) h5 t2.os t2.tape t2.output t2.size hw
    exact ⟨_, _, _, _, rfl, hK, h4.res, h6, t1.trans t3⟩

end
end Go.V
