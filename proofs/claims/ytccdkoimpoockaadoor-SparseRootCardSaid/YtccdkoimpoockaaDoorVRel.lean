/- What abstract states say of the machine's memory. -/
import Derived.Test.YtccdkoimpoockaaDoorVRun
set_option linter.all false
set_option linter.unusedVariables false
set_option linter.unusedSectionVars false
set_option linter.unusedSimpArgs false
namespace Go.V

/-- The loops over functions that a program has, by function and number. -/
class Codes where
  cd : Nat → Nat → Option LCode

variable [Codes]

/-- Where a box lies. -/
structure Gb where
  isRow : Bool
  own : Bool
  blk : Option Nat
  off : Nat
  len : Nat
  cap : Nat
  sz : Nat

/-- What is kept of memory: cells that never turn again, and where the boxes lie. -/
structure Gh where
  fz : Nat → Nat → Option Value
  bx : Nat → Option Gb

def Elems {α : Type} (R : α → List Value → Prop) : List α → List Value → Prop
  | [], cs => cs = []
  | x :: l, cs => ∃ c1 c2, cs = c1 ++ c2 ∧ R x c1 ∧ Elems R l c2

def Fz (fz : Nat → Nat → Option Value) (blk off : Nat) (cs : List Value) : Prop := ∀ j v, cs[j]? = some v → fz blk (off + j) = some v

def SlR {α : Type} (R : α → List Value → Prop) (fz : Nat → Nat → Option Value) (l : List α) (v : Value) : Prop :=
  (l = [] ∧ v = .slice none 0 0) ∨
  ∃ blk off cap cs, v = .slice (some ⟨blk, off, none⟩) l.length cap ∧ l.length ≤ cap ∧ Elems R l cs ∧ Fz fz blk off cs

def CR (fz : Nat → Nat → Option Value) : (T : Ty) → T.den → List Value → Prop
  | .int k, x, cs => cs = [.int k x]
  | .bool, x, cs => cs = [.bool x]
  | .str, x, cs => cs = [.string x]
  | .sl e, l, cs => ∃ v, cs = [v] ∧ SlR (CR fz e) fz l v
  | .unit, _, cs => cs = []
  | .pair a b, x, cs => ∃ c1 c2, cs = c1 ++ c2 ∧ CR fz a x.1 c1 ∧ CR fz b x.2 c2
  | .arr n e, l, cs => l.length = n ∧ Elems (CR fz e) l cs

def stepsOff : List Stp → Nat
  | [] => 0
  | s :: p => s.i.toNat * s.sz + s.o + stepsOff p

def PsR (fz : Nat → Nat → Option Value) : List AV → List Value → Prop
  | [], cs => cs = []
  | .val T x :: gs, cs => ∃ c1 c2, cs = c1 ++ c2 ∧ CR fz T x c1 ∧ PsR fz gs c2
  | _ :: _, _ => False

/-- A captured variable's address. -/
def CapR (g : Gh) (v : AV) (c : Value) : Prop :=
  match v with
  | .ptr b 0 [] => ∃ gb blk, g.bx b = some gb ∧ gb.isRow = false ∧ gb.blk = some blk ∧ c = .pointer (some ⟨blk, 0, none⟩)
  | _ => False

def CapsR (g : Gh) : List AV → List Value → Prop
  | [], [] => True
  | a :: l, v :: vs => CapR g a v ∧ CapsR g l vs
  | _, _ => False

/-- A row's slice value, through a window. -/
def WinR (gb : Gb) (w : Win) (v : Value) : Prop :=
  match w, gb.blk with
  | .whole, none => v = .slice none 0 0 ∧ gb.len = 0
  | .whole, some blk => v = .slice (some ⟨blk, gb.off, none⟩) gb.len gb.cap
  | .part off n full, some blk => off + n ≤ gb.len ∧ ∃ a c, v = .slice (some a) n c ∧ a.spot = none ∧ n ≤ c ∧ (full = true → c = n) ∧ off + c ≤ gb.cap ∧ (c = 0 ∨ a = ⟨blk, gb.off + off * gb.sz, none⟩)
  | .part off n _, none => off = 0 ∧ n = 0 ∧ gb.len = 0 ∧ v = .slice none 0 0

/-- One group and its cells. -/
def GR (g : Gh) (v : AV) (cs : List Value) : Prop :=
  match v with
  | .val T x => CR g.fz T x cs
  | .full T l => ∃ blk off cs', cs = [.slice (some ⟨blk, off, none⟩) l.length l.length] ∧ Elems (CR g.fz T) l cs' ∧ Fz g.fz blk off cs'
  | .nn T l => ∃ blk off cap cs', cs = [.slice (some ⟨blk, off, none⟩) l.length cap] ∧ l.length ≤ cap ∧ Elems (CR g.fz T) l cs' ∧ Fz g.fz blk off cs'
  | .nils => cs = [.slice none 0 0]
  | .nilp => cs = [.pointer none]
  | .nilf => cs = [.nilFunc]
  | .nili => cs = [.nilIface]
  | .ptr b off p => ∃ gb blk, g.bx b = some gb ∧ gb.isRow = false ∧ gb.blk = some blk ∧ (∀ s ∈ p, 0 ≤ s.i ∧ s.i < s.n) ∧ cs = [.pointer (some ⟨blk, off + stepsOff p, none⟩)]
  | .rptr b i o => ∃ gb blk, g.bx b = some gb ∧ gb.isRow = true ∧ gb.blk = some blk ∧ 0 ≤ i ∧ i < gb.len ∧ cs = [.pointer (some ⟨blk, gb.off + i.toNat * gb.sz + o, none⟩)]
  | .eptr gs => ∃ blk off cs', cs = [.pointer (some ⟨blk, off, none⟩)] ∧ PsR g.fz gs cs' ∧ Fz g.fz blk off cs'
  | .row b w => ∃ gb v, g.bx b = some gb ∧ gb.isRow = true ∧ cs = [v] ∧ WinR gb w v
  | .vsl b off n lo len => ∃ gb blk cap, g.bx b = some gb ∧ gb.isRow = false ∧ gb.blk = some blk ∧ lo + len ≤ n ∧ len ≤ cap ∧ ∃ a, cs = [.slice (some a) len cap] ∧ a.spot = none ∧ (cap = 0 ∨ a = ⟨blk, off + lo, none⟩)
  | .fn f caps => ∃ vs, cs = [.func (.func f) #[] vs] ∧ CapsR g caps vs.toList
  | .yld b => ∃ gb l, g.bx b = some gb ∧ gb.isRow = false ∧ gb.blk = some l ∧ cs = [.func (.yield l) #[] #[]]
  | .iface t v => ∃ c, cs = [.iface t c] ∧ match v with
    | .val (.int k) x => c = .int k x
    | .val .str x => c = .string x
    | .agg [] => c = .agg #[]
    | _ => False
  | .junk => ∃ v, cs = [v] ∧ v.oneCell' = true
  | .agg _ | .tup _ => False

def GsR (g : Gh) : List AV → List Value → Prop
  | [], cs => cs = []
  | v :: gs, cs => ∃ c1 c2, cs = c1 ++ c2 ∧ GR g v c1 ∧ GsR g gs c2

/-- A value that is no tuple. -/
def VR1 (g : Gh) (v : AV) (c : Value) : Prop :=
  match v with
  | .agg gs => ∃ arr, c = .agg arr ∧ GsR g gs arr.toList
  | .val (.arr n T) l => ∃ arr, c = .agg arr ∧ CR g.fz (.arr n T) l arr.toList
  | .val (.pair _ _) _ | .val .unit _ => False
  | .junk => True
  | v => GR g v [c]

def TsR (g : Gh) : List AV → List Value → Prop
  | [], [] => True
  | a :: l, v :: vs => VR1 g a v ∧ TsR g l vs
  | _, _ => False

def VR (g : Gh) (v : AV) (c : Value) : Prop :=
  match v with
  | .tup vs => ∃ arr, c = .tuple arr ∧ TsR g vs arr.toList
  | v => VR1 g v c

/-- A block's cells, none of them under a mark. -/
def BlkIs (w : World) (blk : Nat) (cells : List Value) : Prop :=
  ∃ elem lo hi, w.heap[blk]? = some (.cells cells.toArray elem (lo, hi)) ∧ ∀ o, o < cells.length → ¬ (lo ≤ o ∧ o < hi)

def BoxR (g : Gh) (b : Box) (gb : Gb) (w : World) : Prop :=
  match b with
  | .loop busy f id env => gb.isRow = false ∧ gb.own = true ∧ ∃ l tm D fn cd, gb.blk = some l ∧ Codes.cd f id = some cd ∧
      w.heap[l]? = some (.loop { state := if busy = true then .busy else .ready, pending := none, fn := fn, tmps := tm, params := cd.ps.toArray, assign := cd.assign, body := cd.body, defers := D }) ∧
      (∀ n v, find env n = some v → VR g v (tm.getD n undef)) ∧ (cd.n ≤ tm.size ∧ ∀ o, g.fz l o = none)
  | .dead => gb.isRow = false ∧ gb.own = true ∧ ∃ l o, gb.blk = some l ∧ w.heap[l]? = some o ∧ ∀ o, g.fz l o = none
  | .var gs => gb.isRow = false ∧ gb.own = true ∧ ∃ blk cells, gb.blk = some blk ∧ BlkIs w blk cells ∧ GsR g gs cells ∧ ∀ o, g.fz blk o = none
  | .row T fz l => gb.isRow = true ∧ gb.sz = T.size ∧ gb.len = l.length ∧ gb.len ≤ gb.cap ∧
    match gb.blk, gb.own with
    | none, _ => l = [] ∧ gb.own = false ∧ gb.cap = 0
    | some blk, false => (fz = true ∨ l = []) ∧ gb.cap = gb.len ∧ ∃ cs, Elems (CR g.fz T) l cs ∧ Fz g.fz blk gb.off cs
    | some blk, true => ∃ cells cs, BlkIs w blk cells ∧ gb.off + gb.cap * T.size ≤ cells.length ∧ Elems (CR g.fz T) l cs ∧
        (∀ j v, cs[j]? = some v → cells[gb.off + j]? = some v) ∧
        (fz = false → ∀ o, g.fz blk o = none) ∧ (fz = true → Fz g.fz blk gb.off cs ∧ ∀ o, gb.off + cs.length ≤ o → g.fz blk o = none)

def owned (g : Gh) (blk : Nat) : Prop := ∃ k gb, g.bx k = some gb ∧ gb.blk = some blk ∧ gb.own = true

structure BxR (g : Gh) (bxs : Bxs) (w : World) : Prop where
  box : ∀ k b, find bxs k = some b → ∃ gb, g.bx k = some gb ∧ BoxR g b gb w
  dom : ∀ k gb, g.bx k = some gb → (find bxs k).isSome = true
  sep : ∀ k j a b blk, k ≠ j → g.bx k = some a → g.bx j = some b → a.blk = some blk → a.own = true → b.blk = some blk → b.own = true → False

/-- The boxes alone. -/
structure BxW (g : Gh) (bxs : Bxs) (w : World) : Prop where
  box : ∀ k b, find bxs k = some b → ∃ gb, g.bx k = some gb ∧ BoxR g b gb w

theorem BxR.w {g : Gh} {bxs : Bxs} {w : World} (h : BxR g bxs w) : BxW g bxs w := ⟨h.box⟩
theorem bxW_nil {g : Gh} {w : World} : BxW g [] w := ⟨fun _ _ h => nomatch h⟩

def FzOK (g : Gh) (w : World) : Prop := ∀ b o v, g.fz b o = some v → w.cell? ⟨b, o, none⟩ = some v

def EnvR (g : Gh) (env : Env) (tm : Array Value) : Prop := ∀ n v, find env n = some v → VR g v (tm.getD n undef)

def StkR (g : Gh) : List Env → List (Array Value) → Prop
  | [], [] => True
  | e :: l, t :: ts => EnvR g e t ∧ StkR g l ts
  | _, _ => False

structure StR (g : Gh) (s : St) (tm : Array Value) (tms : List (Array Value)) (w : World) : Prop where
  env : EnvR g s.env tm
  stk : StkR g s.stk tms
  bxs : BxR g s.bxs w
  fz : FzOK g w

/-- How memory and what is kept of it go on. -/
structure Tr (g : Gh) (w : World) (g' : Gh) (w' : World) : Prop where
  os : w'.os = w.os
  tape : w'.tape = w.tape
  output : w'.output = w.output
  size : w.heap.size ≤ w'.heap.size
  fz : ∀ b o v, g.fz b o = some v → g'.fz b o = some v
  fzNew : ∀ b o, g'.fz b o ≠ none → g.fz b o ≠ none ∨ w.heap.size ≤ b ∨ owned g b
  own : ∀ b, owned g' b → owned g b ∨ w.heap.size ≤ b
  block : ∀ b, b < w.heap.size → ¬ owned g b → w'.heap[b]? = w.heap[b]?

theorem Tr.refl (g : Gh) (w : World) : Tr g w g w :=
  ⟨rfl, rfl, rfl, Nat.le_refl _, fun _ _ _ h => h, fun _ _ h => .inl h, fun _ h => .inl h, fun _ _ _ => rfl⟩

theorem Tr.trans {g g' g'' : Gh} {w w' w'' : World} (h : Tr g w g' w') (k : Tr g' w' g'' w'') : Tr g w g'' w'' where
  os := k.os.trans h.os
  tape := k.tape.trans h.tape
  output := k.output.trans h.output
  size := Nat.le_trans h.size k.size
  fz := fun b o v e => k.fz b o v (h.fz b o v e)
  fzNew := fun b o e => by
    rcases k.fzNew b o e with h1 | h1 | h1
    · exact h.fzNew b o h1
    · exact .inr (.inl (Nat.le_trans h.size h1))
    · rcases h.own b h1 with h2 | h2
      · exact .inr (.inr h2)
      · exact .inr (.inl h2)
  own := fun b e => by
    rcases k.own b e with h1 | h1
    · exact h.own b h1
    · exact .inr (Nat.le_trans h.size h1)
  block := fun b hb ho => by
    have h1 : ¬ owned g' b := fun h2 => by
      rcases h.own b h2 with h3 | h3
      · exact ho h3
      · omega
    exact (k.block b (Nat.lt_of_lt_of_le hb h.size) h1).trans (h.block b hb ho)

/-! ### Cells in a row -/
theorem Elems.length {α : Type} {R : α → List Value → Prop} {n : Nat} (hR : ∀ x cs, R x cs → cs.length = n) : ∀ {l : List α} {cs : List Value}, Elems R l cs → cs.length = l.length * n
  | [], cs, h => by simp [Elems] at h; simp [h]
  | x :: l, cs, h => by
    obtain ⟨c1, c2, rfl, h1, h2⟩ := h
    rw [List.length_append, hR _ _ h1, h2.length hR, List.length_cons, Nat.succ_mul, Nat.add_comm]

theorem Elems.mono {α : Type} {R R' : α → List Value → Prop} (hR : ∀ x cs, R x cs → R' x cs) : ∀ {l : List α} {cs : List Value}, Elems R l cs → Elems R' l cs
  | [], _, h => h
  | _ :: _, _, ⟨c1, c2, e, h1, h2⟩ => ⟨c1, c2, e, hR _ _ h1, h2.mono hR⟩

theorem CR.length {fz : Nat → Nat → Option Value} : ∀ {T : Ty} {x : T.den} {cs : List Value}, CR fz T x cs → cs.length = T.size
  | .int _, _, _, h => by simp only [CR] at h; simp [h, Ty.size]
  | .bool, _, _, h => by simp only [CR] at h; simp [h, Ty.size]
  | .str, _, _, h => by simp only [CR] at h; simp [h, Ty.size]
  | .sl _, _, _, h => by obtain ⟨v, rfl, _⟩ := h; simp [Ty.size]
  | .unit, _, _, h => by simp only [CR] at h; simp [h, Ty.size]
  | .pair a b, x, cs, h => by
    obtain ⟨c1, c2, rfl, h1, h2⟩ := h
    rw [List.length_append, h1.length, h2.length, Ty.size]
  | .arr n e, l, cs, h => by
    obtain ⟨h1, h2⟩ := h
    rw [h2.length (n := e.size) (fun x cs h => h.length), h1, Ty.size]

theorem Fz.mono {fz fz' : Nat → Nat → Option Value} (hf : ∀ b o v, fz b o = some v → fz' b o = some v) {blk off : Nat} {cs : List Value} (h : Fz fz blk off cs) : Fz fz' blk off cs :=
  fun j v e => hf _ _ _ (h j v e)

theorem CR.mono {fz fz' : Nat → Nat → Option Value} (hf : ∀ b o v, fz b o = some v → fz' b o = some v) : ∀ {T : Ty} {x : T.den} {cs : List Value}, CR fz T x cs → CR fz' T x cs
  | .int _, _, _, h => h
  | .bool, _, _, h => h
  | .str, _, _, h => h
  | .sl e, _, _, h => by
    obtain ⟨v, rfl, h⟩ := h
    refine ⟨v, rfl, ?_⟩
    rcases h with h | ⟨blk, off, cap, cs, h1, h2, h3, h4⟩
    · exact .inl h
    · exact .inr ⟨blk, off, cap, cs, h1, h2, h3.mono (fun x cs h => CR.mono hf h), h4.mono hf⟩
  | .unit, _, _, h => h
  | .pair a b, x, cs, h => by
    obtain ⟨c1, c2, rfl, h1, h2⟩ := h
    exact ⟨c1, c2, rfl, CR.mono hf h1, CR.mono hf h2⟩
  | .arr n e, l, cs, h => ⟨h.1, h.2.mono (fun x cs h => CR.mono hf h)⟩

/-- The cells of an element. -/
theorem Elems.get {α : Type} {R : α → List Value → Prop} {n : Nat} (hR : ∀ x cs, R x cs → cs.length = n) : ∀ {l : List α} {cs : List Value}, Elems R l cs → ∀ i (hi : i < l.length),
    ∃ a c b, cs = a ++ (c ++ b) ∧ a.length = i * n ∧ R l[i] c ∧ Elems R (l.take i) a ∧ Elems R (l.drop (i + 1)) b
  | [], _, _, i, hi => by simp at hi
  | x :: l, cs, ⟨c1, c2, e, h1, h2⟩, 0, _ => ⟨[], c1, c2, by simp [e], by simp, h1, rfl, by simpa using h2⟩
  | x :: l, cs, ⟨c1, c2, e, h1, h2⟩, i + 1, hi => by
    obtain ⟨a, c, b, e2, ha, hc, h3, h4⟩ := h2.get hR i (by simpa using hi)
    refine ⟨c1 ++ a, c, b, by simp [e, e2], ?_, by simpa using hc, ⟨c1, a, rfl, h1, h3⟩, by simpa using h4⟩
    rw [List.length_append, hR _ _ h1, ha, Nat.succ_mul, Nat.add_comm]

theorem Elems.append {α : Type} {R : α → List Value → Prop} : ∀ {l m : List α} {a b : List Value}, Elems R l a → Elems R m b → Elems R (l ++ m) (a ++ b)
  | [], m, a, b, h, k => by have : a = [] := h; subst this; exact k
  | x :: l, m, a, b, ⟨c1, c2, e, h1, h2⟩, k => ⟨c1, c2 ++ b, by simp [e], h1, h2.append k⟩

theorem Elems.split {α : Type} {R : α → List Value → Prop} {n : Nat} (hR : ∀ x cs, R x cs → cs.length = n) : ∀ {l : List α} {cs : List Value}, Elems R l cs → ∀ i, i ≤ l.length →
    Elems R (l.take i) (cs.take (i * n)) ∧ Elems R (l.drop i) (cs.drop (i * n))
  | [], cs, h, i, hi => by
    have : cs = [] := h
    subst this
    have : i = 0 := by simpa using hi
    subst this
    simp [Elems]
  | x :: l, cs, h, 0, _ => by simp only [List.take_zero, List.drop_zero, Nat.zero_mul]; exact ⟨rfl, h⟩
  | x :: l, cs, ⟨c1, c2, e, h1, h2⟩, i + 1, hi => by
    obtain ⟨h3, h4⟩ := h2.split hR i (by simpa using hi)
    have hc := hR _ _ h1
    subst e
    have e1 : (i + 1) * n = c1.length + i * n := by rw [Nat.succ_mul, hc, Nat.add_comm]
    constructor
    · show Elems R (x :: l.take i) ((c1 ++ c2).take ((i + 1) * n))
      have e2 : (c1 ++ c2).take ((i + 1) * n) = c1 ++ c2.take (i * n) := by rw [e1, List.take_append, List.take_of_length_le (by omega), Nat.add_sub_cancel_left]
      rw [e2]
      exact ⟨c1, _, rfl, h1, h3⟩
    · show Elems R (l.drop i) ((c1 ++ c2).drop ((i + 1) * n))
      have e2 : (c1 ++ c2).drop ((i + 1) * n) = c2.drop (i * n) := by rw [e1, List.drop_append, List.drop_of_length_le (by omega), Nat.add_sub_cancel_left, List.nil_append]
      rw [e2]
      exact h4

theorem Elems.set {α : Type} {R : α → List Value → Prop} {n : Nat} (hR : ∀ x cs, R x cs → cs.length = n) {l : List α} {cs : List Value} (h : Elems R l cs) (i : Nat) (hi : i < l.length) {y : α} {c : List Value} (hy : R y c) :
    ∃ a b c0, cs = a ++ (c0 ++ b) ∧ a.length = i * n ∧ R l[i] c0 ∧ Elems R (l.set i y) (a ++ (c ++ b)) := by
  obtain ⟨a, c0, b, e, ha, h0, h1, h2⟩ := h.get hR i hi
  refine ⟨a, b, c0, e, ha, h0, ?_⟩
  rw [List.set_eq_take_append_cons_drop, if_pos hi]
  exact h1.append ⟨c, b, rfl, hy, h2⟩

/-! ### Groups -/
theorem PsR.append {fz : Nat → Nat → Option Value} : ∀ {l m : List AV} {a b : List Value}, PsR fz l a → PsR fz m b → PsR fz (l ++ m) (a ++ b)
  | [], m, a, b, h, k => by have : a = [] := h; subst this; exact k
  | .val T x :: l, m, a, b, ⟨c1, c2, e, h1, h2⟩, k => ⟨c1, c2 ++ b, by simp [e], h1, h2.append k⟩

theorem psR_gs {fz : Nat → Nat → Option Value} : ∀ {T : Ty} {x : T.den} {cs : List Value}, CR fz T x cs → PsR fz (T.gs x) cs
  | .int _, _, cs, h => ⟨cs, [], by simp, h, rfl⟩
  | .bool, _, cs, h => ⟨cs, [], by simp, h, rfl⟩
  | .str, _, cs, h => ⟨cs, [], by simp, h, rfl⟩
  | .sl _, _, cs, h => ⟨cs, [], by simp, h, rfl⟩
  | .unit, _, _, h => h
  | .pair a b, x, cs, h => by
    obtain ⟨c1, c2, rfl, h1, h2⟩ := h
    exact (psR_gs h1).append (psR_gs h2)
  | .arr _ _, _, cs, h => ⟨cs, [], by simp, h, rfl⟩

theorem PsR.gsR {g : Gh} : ∀ {l : List AV} {cs : List Value}, PsR g.fz l cs → GsR g l cs
  | [], _, h => h
  | .val _ _ :: _, _, ⟨c1, c2, e, h1, h2⟩ => ⟨c1, c2, e, h1, h2.gsR⟩

theorem gsR_gs {g : Gh} {T : Ty} {x : T.den} {cs : List Value} (h : CR g.fz T x cs) : GsR g (T.gs x) cs := (psR_gs h).gsR

theorem GsR.append {g : Gh} : ∀ {l m : List AV} {a b : List Value}, GsR g l a → GsR g m b → GsR g (l ++ m) (a ++ b)
  | [], m, a, b, h, k => by have : a = [] := h; subst this; exact k
  | _ :: l, m, a, b, ⟨c1, c2, e, h1, h2⟩, k => ⟨c1, c2 ++ b, by simp [e], h1, h2.append k⟩

theorem GR.length {g : Gh} {v : AV} {cs : List Value} (h : GR g v cs) : cs.length = v.size := by
  cases v <;> simp only [GR] at h <;> simp only [AV.size]
  case val T x => exact h.length
  case full => obtain ⟨_, _, _, rfl, _⟩ := h; rfl
  case nn => obtain ⟨_, _, _, _, rfl, _⟩ := h; rfl
  case ptr => obtain ⟨_, _, _, _, _, _, rfl⟩ := h; rfl
  case rptr => obtain ⟨_, _, _, _, _, _, _, rfl⟩ := h; rfl
  case eptr => obtain ⟨_, _, _, rfl, _⟩ := h; rfl
  case row => obtain ⟨_, _, _, _, rfl, _⟩ := h; rfl
  case vsl => obtain ⟨_, _, _, _, _, _, _, _, _, rfl, _⟩ := h; rfl
  case fn => obtain ⟨_, rfl, _⟩ := h; rfl
  case yld => obtain ⟨_, _, _, _, _, rfl⟩ := h; rfl
  case iface => obtain ⟨_, rfl, _⟩ := h; rfl
  case junk => obtain ⟨_, rfl, _⟩ := h; rfl
  all_goals simp [h]

theorem GsR.length {g : Gh} : ∀ {gs : List AV} {cs : List Value}, GsR g gs cs → cs.length = gsSize gs
  | [], _, h => by have : _ = [] := h; simp [this, gsSize]
  | v :: gs, _, ⟨c1, c2, e, h1, h2⟩ => by rw [e, List.length_append, h1.length, h2.length, gsSize]

theorem PsR.length {fz : Nat → Nat → Option Value} : ∀ {gs : List AV} {cs : List Value}, PsR fz gs cs → cs.length = gsSize gs :=
  fun h => (PsR.gsR (g := ⟨fz, fun _ => none⟩) h).length

theorem PsR.mono {fz fz' : Nat → Nat → Option Value} (hf : ∀ b o v, fz b o = some v → fz' b o = some v) : ∀ {l : List AV} {cs : List Value}, PsR fz l cs → PsR fz' l cs
  | [], _, h => h
  | .val _ _ :: _, _, ⟨c1, c2, e, h1, h2⟩ => ⟨c1, c2, e, h1.mono hf, h2.mono hf⟩

theorem ble_false {a b : Nat} (h : ¬ a ≤ b) : Nat.ble a b = false := by
  cases hb : Nat.ble a b
  · rfl
  · exact absurd (Nat.le_of_ble_eq_true hb) h

theorem dropGs_rel {g : Gh} : ∀ {gs : List AV} {n : Nat} {gs' : List AV} {cs : List Value}, dropGs gs n = some gs' → GsR g gs cs → n ≤ cs.length ∧ GsR g gs' (cs.drop n)
  | gs, 0, gs', cs, h, k => by
    simp only [dropGs, Option.some.injEq] at h
    subst h
    exact ⟨Nat.zero_le _, by simpa using k⟩
  | [], n + 1, gs', cs, h, k => by simp [dropGs] at h
  | v :: gs, n + 1, gs', cs, h, ⟨c1, c2, e, h1, h2⟩ => by
    simp only [dropGs] at h
    by_cases hle : v.size ≤ n + 1
    · simp only [Nat.ble_eq_true_of_le hle, cond_true] at h
      obtain ⟨h3, h4⟩ := dropGs_rel h h2
      have hl := h1.length
      subst e
      refine ⟨by rw [List.length_append]; omega, ?_⟩
      rw [List.drop_append, List.drop_of_length_le (by omega), List.nil_append, hl]
      exact h4
    · have hb : Nat.ble v.size (n + 1) = false := ble_false hle
      simp [hb] at h

theorem takeGs_rel {g : Gh} : ∀ {gs : List AV} {n : Nat} {gs' : List AV} {cs : List Value}, takeGs gs n = some gs' → GsR g gs cs → n ≤ cs.length ∧ GsR g gs' (cs.take n)
  | gs, 0, gs', cs, h, k => by
    simp only [takeGs, Option.some.injEq] at h
    subst h
    exact ⟨Nat.zero_le _, by simp [GsR]⟩
  | [], n + 1, gs', cs, h, k => by simp [takeGs] at h
  | v :: gs, n + 1, gs', cs, h, ⟨c1, c2, e, h1, h2⟩ => by
    simp only [takeGs] at h
    by_cases hle : v.size ≤ n + 1
    · simp only [Nat.ble_eq_true_of_le hle, cond_true, Option.map_eq_some_iff] at h
      obtain ⟨r, hr, rfl⟩ := h
      obtain ⟨h3, h4⟩ := takeGs_rel hr h2
      have hl := h1.length
      subst e
      refine ⟨by rw [List.length_append]; omega, ?_⟩
      rw [List.take_append, List.take_of_length_le (by omega), hl]
      exact ⟨c1, _, rfl, h1, h4⟩
    · have hb : Nat.ble v.size (n + 1) = false := ble_false hle
      simp [hb] at h

theorem putGs_rel {g : Gh} {new : List AV} {ns : List Value} (hn : GsR g new ns) : ∀ {gs : List AV} {n : Nat} {gs' : List AV} {cs : List Value}, putGs gs n new = some gs' → GsR g gs cs →
    n + ns.length ≤ cs.length ∧ GsR g gs' (cs.take n ++ ns ++ cs.drop (n + ns.length))
  | gs, 0, gs', cs, h, k => by
    have h' : (dropGs gs (gsSize new)).map (new ++ ·) = some gs' := by cases gs <;> simpa [putGs] using h
    rw [Option.map_eq_some_iff] at h'
    obtain ⟨r, hr, rfl⟩ := h'
    obtain ⟨h3, h4⟩ := dropGs_rel hr k
    rw [← hn.length] at h3 h4
    refine ⟨by omega, ?_⟩
    simp only [List.take_zero, List.nil_append, Nat.zero_add]
    exact hn.append h4
  | [], n + 1, gs', cs, h, k => by simp [putGs] at h
  | v :: gs, n + 1, gs', cs, h, ⟨c1, c2, e, h1, h2⟩ => by
    simp only [putGs] at h
    by_cases hle : v.size ≤ n + 1
    · simp only [Nat.ble_eq_true_of_le hle, cond_true, Option.map_eq_some_iff] at h
      obtain ⟨r, hr, rfl⟩ := h
      obtain ⟨h3, h4⟩ := putGs_rel hn hr h2
      have hl := h1.length
      subst e
      refine ⟨by rw [List.length_append]; omega, ?_⟩
      rw [List.take_append, List.take_of_length_le (by omega), List.drop_append, List.drop_of_length_le (by omega), List.nil_append, hl,
        show n + 1 + ns.length - v.size = n + 1 - v.size + ns.length by omega, List.append_assoc, List.append_assoc]
      exact ⟨c1, _, rfl, h1, by simpa [List.append_assoc] using h4⟩
    · have hb : Nat.ble v.size (n + 1) = false := ble_false hle
      simp [hb] at h

/-! ### A value's cells -/
theorem Elems.all {α : Type} {R : α → List Value → Prop} {p : Value → Prop} (hR : ∀ x cs, R x cs → ∀ c ∈ cs, p c) : ∀ {l : List α} {cs : List Value}, Elems R l cs → ∀ c ∈ cs, p c
  | [], _, h => by have : _ = [] := h; simp [this]
  | x :: l, _, ⟨c1, c2, e, h1, h2⟩ => by
    intro c hc
    rw [e, List.mem_append] at hc
    rcases hc with hc | hc
    · exact hR _ _ h1 c hc
    · exact h2.all hR c hc

theorem CR.one {fz : Nat → Nat → Option Value} : ∀ {T : Ty} {x : T.den} {cs : List Value}, CR fz T x cs → ∀ c ∈ cs, c.oneCell' = true
  | .int _, _, _, h => by simp only [CR] at h; simp [h, Value.oneCell']
  | .bool, _, _, h => by simp only [CR] at h; simp [h, Value.oneCell']
  | .str, _, _, h => by simp only [CR] at h; simp [h, Value.oneCell']
  | .sl _, _, _, h => by
    obtain ⟨v, rfl, h⟩ := h
    rcases h with ⟨_, rfl⟩ | ⟨_, _, _, _, rfl, _⟩ <;> simp [Value.oneCell']
  | .unit, _, _, h => by simp only [CR] at h; simp [h]
  | .pair a b, x, cs, h => by
    obtain ⟨c1, c2, rfl, h1, h2⟩ := h
    intro c hc
    rw [List.mem_append] at hc
    rcases hc with hc | hc
    · exact h1.one c hc
    · exact h2.one c hc
  | .arr n e, l, cs, h => h.2.all (fun x cs h => h.one)

theorem WinR.one {gb : Gb} {w : Win} {v : Value} (h : WinR gb w v) : v.oneCell' = true := by
  unfold WinR at h
  split at h
  · rw [h.1]; rfl
  · rw [h]; rfl
  · obtain ⟨_, a, c, rfl, _⟩ := h; rfl
  · rw [h.2.2.2]; rfl

theorem GR.one {g : Gh} {v : AV} {cs : List Value} (h : GR g v cs) : ∀ c ∈ cs, c.oneCell' = true := by
  cases v <;> simp only [GR] at h
  case val T x => exact h.one
  case full => obtain ⟨_, _, _, rfl, _⟩ := h; simp [Value.oneCell']
  case nn => obtain ⟨_, _, _, _, rfl, _⟩ := h; simp [Value.oneCell']
  case ptr => obtain ⟨_, _, _, _, _, _, rfl⟩ := h; simp [Value.oneCell']
  case rptr => obtain ⟨_, _, _, _, _, _, _, rfl⟩ := h; simp [Value.oneCell']
  case eptr => obtain ⟨_, _, _, rfl, _⟩ := h; simp [Value.oneCell']
  case row => obtain ⟨_, _, _, _, rfl, h⟩ := h; simp [h.one]
  case vsl => obtain ⟨_, _, _, _, _, _, _, _, _, rfl, _⟩ := h; simp [Value.oneCell']
  case fn => obtain ⟨_, rfl, _⟩ := h; simp [Value.oneCell']
  case yld => obtain ⟨_, _, _, _, _, rfl⟩ := h; simp [Value.oneCell']
  case iface => obtain ⟨_, rfl, _⟩ := h; simp [Value.oneCell']
  case junk => obtain ⟨_, rfl, h⟩ := h; simp [h]
  all_goals simp [h, Value.oneCell']

theorem GsR.one {g : Gh} : ∀ {gs : List AV} {cs : List Value}, GsR g gs cs → ∀ c ∈ cs, c.oneCell' = true
  | [], _, h => by have : _ = [] := h; simp [this]
  | v :: gs, _, ⟨c1, c2, e, h1, h2⟩ => by
    intro c hc
    rw [e, List.mem_append] at hc
    rcases hc with hc | hc
    · exact h1.one c hc
    · exact h2.one c hc

theorem cells_one {c : Value} (h : c.oneCell' = true) : c.cells = #[c] := by
  cases c <;> first | rfl | (simp [Value.oneCell'] at h)

theorem vr1_single {g : Gh} {v : AV} {c : Value} (hv : v.single = true) : VR1 g v c ↔ GR g v [c] := by
  cases v <;> simp only [AV.single, Bool.false_eq_true] at hv <;> try exact Iff.rfl
  case val T x => cases T <;> simp only [Bool.false_eq_true] at hv <;> exact Iff.rfl

theorem VR1.single_gs {g : Gh} {v : AV} {c : Value} (h : VR1 g v c) (hv : v.single = true) : GR g v [c] ∧ c.cells = #[c] := by
  have h' := (vr1_single hv).1 h
  exact ⟨h', cells_one (h'.one c (by simp))⟩

theorem VR1.gs {g : Gh} {v : AV} {c : Value} (h : VR1 g v c) (hv : v.okGs = true) : GsR g v.gs c.cells.toList := by
  by_cases hs : v.single = true
  · obtain ⟨h1, h2⟩ := h.single_gs hs
    have e : v.gs = [v] := by cases v <;> first | rfl | (simp [AV.single] at hs)
    rw [e, h2]
    exact ⟨[c], [], rfl, h1, rfl⟩
  · cases v <;> simp only [AV.okGs, Bool.false_eq_true, AV.single, not_true] at hv hs
    case val T x =>
      cases T <;> simp only [not_true] at hs
      case arr n T =>
        obtain ⟨arr, rfl, h⟩ := h
        exact ⟨arr.toList, [], by simp [Value.cells], h, rfl⟩
      all_goals exact h.elim
    case agg gs =>
      obtain ⟨arr, rfl, h⟩ := h
      exact h

theorem VR.vr1 {g : Gh} {v : AV} {c : Value} (hv : v.okGs = true) (h : VR g v c) : VR1 g v c := by
  cases v <;> first | exact h | (simp [AV.okGs] at hv)

theorem VR.gs {g : Gh} {v : AV} {c : Value} (h : VR g v c) (hv : v.okGs = true) : GsR g v.gs c.cells.toList := (VR.vr1 hv h).gs hv

theorem VR1.vr {g : Gh} {v : AV} {c : Value} (hv : ∀ vs, v ≠ .tup vs) (h : VR1 g v c) : VR g v c := by
  cases v <;> first | exact h | exact (hv _ rfl).elim

/-- A typed value, whole. -/
theorem vr_av {g : Gh} {T : Ty} {x : T.den} {arr : Array Value} (h : CR g.fz T x arr.toList) :
    VR1 g (T.av x) (match T with | .pair _ _ | .unit | .arr _ _ => .agg arr | _ => arr.getD 0 undef) := by
  cases T
  case int k => have h' : arr.toList = [.int k x] := h; obtain ⟨l⟩ := arr; simp only at h'; subst h'; exact rfl
  case bool => have h' : arr.toList = [.bool x] := h; obtain ⟨l⟩ := arr; simp only at h'; subst h'; exact rfl
  case str => have h' : arr.toList = [.string x] := h; obtain ⟨l⟩ := arr; simp only at h'; subst h'; exact rfl
  case sl e => obtain ⟨v, h1, h2⟩ := h; obtain ⟨l⟩ := arr; simp only at h1; subst h1; exact ⟨v, rfl, h2⟩
  case unit => exact ⟨arr, rfl, h⟩
  case pair a b => exact ⟨arr, rfl, gsR_gs h⟩
  case arr n e => exact ⟨arr, rfl, h⟩

end Go.V
