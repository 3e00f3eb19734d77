/- Tables of types, checked by evaluation; a function's loops. -/
import Derived.Test.YtccdkoimpoockaaDoorVFun
set_option linter.all false
set_option linter.unusedVariables false
set_option linter.unusedSectionVars false
set_option linter.unusedSimpArgs false
namespace Go.V
variable [Codes]

/-- The groups of a zero value. -/
inductive ZG where
  | val (T : Ty) | nils | nilp | nilf | nili

def ZG.av : ZG → AV
  | .val T => .val T T.dflt
  | .nils => .nils
  | .nilp => .nilp
  | .nilf => .nilf
  | .nili => .nili

def chkN (f : List Value → Option (List Value)) : Nat → List Value → Option (List Value)
  | 0, l => some l
  | n + 1, l => match f l with
    | some r => chkN f n r
    | none => none

/-- The cells of a type's zero value, and what is left. -/
def chkT : Ty → List Value → Option (List Value)
  | .int k, .int j x :: r => if k = j ∧ x = 0 then some r else none
  | .bool, .bool false :: r => some r
  | .str, .string s :: r => if s.size = 0 then some r else none
  | .sl _, .slice none 0 0 :: r => some r
  | .unit, l => some l
  | .pair a b, l => match chkT a l with
    | some r => chkT b r
    | none => none
  | .arr n e, l => chkN (fun l => chkT e l) n l
  | _, _ => none

theorem chkN_ok {α : Type} {f : List Value → Option (List Value)} {Q : α → List Value → Prop} {x : α} (h : ∀ cs r, f cs = some r → ∃ c, cs = c ++ r ∧ Q x c) : ∀ {n : Nat} {cs r : List Value}, chkN f n cs = some r → ∃ c, cs = c ++ r ∧ Elems Q (List.replicate n x) c
  | 0, cs, r, e => by
    simp only [chkN, Option.some.injEq] at e
    exact ⟨[], by simp [e], rfl⟩
  | n + 1, cs, r, e => by
    simp only [chkN] at e
    split at e
    · rename_i r1 h1
      obtain ⟨c1, rfl, q1⟩ := h _ _ h1
      obtain ⟨c2, rfl, q2⟩ := chkN_ok h e
      exact ⟨c1 ++ c2, by simp, c1, c2, rfl, q1, q2⟩
    · cases e

theorem chkT_ok {fz : Nat → Nat → Option Value} : ∀ {T : Ty} {cs r : List Value}, chkT T cs = some r → ∃ c, cs = c ++ r ∧ CR fz T T.dflt c := by
  intro T
  induction T with
  | int k =>
    intro cs r h
    match cs, h with
    | .int j x :: r', h =>
      simp only [chkT] at h
      split at h
      · rename_i hc
        simp only [Option.some.injEq] at h
        subst h
        exact ⟨[_], rfl, by rw [hc.1, hc.2]; rfl⟩
      · cases h
  | bool =>
    intro cs r h
    match cs, h with
    | .bool false :: r', h => simp only [chkT, Option.some.injEq] at h; subst h; exact ⟨[_], rfl, rfl⟩
  | str =>
    intro cs r h
    match cs, h with
    | .string s :: r', h =>
      simp only [chkT] at h
      split at h
      · rename_i hs
        simp only [Option.some.injEq] at h
        subst h
        refine ⟨[_], rfl, ?_⟩
        have : s = ⟨#[]⟩ := by
          obtain ⟨a⟩ := s
          congr 1
          exact Array.eq_empty_of_size_eq_zero hs
        rw [this]
        rfl
      · cases h
  | sl e _ =>
    intro cs r h
    match cs, h with
    | .slice none 0 0 :: r', h => simp only [chkT, Option.some.injEq] at h; subst h; exact ⟨[_], rfl, _, rfl, .inl ⟨rfl, rfl⟩⟩
  | unit =>
    intro cs r h
    simp only [chkT, Option.some.injEq] at h
    subst h
    exact ⟨[], rfl, rfl⟩
  | pair a b iha ihb =>
    intro cs r h
    simp only [chkT] at h
    split at h
    · rename_i r1 h1
      obtain ⟨c1, rfl, q1⟩ := iha h1
      obtain ⟨c2, rfl, q2⟩ := ihb h
      exact ⟨c1 ++ c2, by simp, c1, c2, rfl, q1, q2⟩
    · cases h
  | arr n e ih =>
    intro cs r h
    simp only [chkT] at h
    obtain ⟨c, e1, e2⟩ := chkN_ok (Q := CR fz e) (x := e.dflt) (fun cs r h => ih h) h
    exact ⟨c, e1, by simp [Ty.dflt], e2⟩

def chkZ : List ZG → List Value → Bool
  | [], [] => true
  | .val T :: l, cs => match chkT T cs with
    | some r => chkZ l r
    | none => false
  | .nils :: l, .slice none 0 0 :: r => chkZ l r
  | .nilp :: l, .pointer none :: r => chkZ l r
  | .nilf :: l, .nilFunc :: r => chkZ l r
  | .nili :: l, .nilIface :: r => chkZ l r
  | _, _ => false

theorem chkZ_ok {g : Gh} : ∀ {l : List ZG} {cs : List Value}, chkZ l cs = true → GsR g (l.map ZG.av) cs
  | [], [], _ => rfl
  | [], _ :: _, h => by simp [chkZ] at h
  | .val T :: l, cs, h => by
    simp only [chkZ] at h
    split at h
    · rename_i r hr
      obtain ⟨c, rfl, q⟩ := chkT_ok (fz := g.fz) hr
      exact ⟨c, r, rfl, q, chkZ_ok h⟩
    · cases h
  | .nils :: l, cs, h => by
    match cs, h with
    | .slice none 0 0 :: r, h => exact ⟨[_], r, rfl, rfl, chkZ_ok h⟩
  | .nilp :: l, cs, h => by
    match cs, h with
    | .pointer none :: r, h => exact ⟨[_], r, rfl, rfl, chkZ_ok h⟩
  | .nilf :: l, cs, h => by
    match cs, h with
    | .nilFunc :: r, h => exact ⟨[_], r, rfl, rfl, chkZ_ok h⟩
  | .nili :: l, cs, h => by
    match cs, h with
    | .nilIface :: r, h => exact ⟨[_], r, rfl, rfl, chkZ_ok h⟩

def chkU (u : UT) (d : Option TypeDesc) : Bool :=
  match u, d with
  | .int k, some (.int j) => decide (k = j)
  | .bool, some .bool => true
  | .str, some .string => true
  | .ptr e, some (.pointer e') => Nat.beq e e'
  | .sl e, some (.slice e') => Nat.beq e e'
  | .arr n e, some (.array n' e') => Nat.beq n n' && Nat.beq e e'
  | .st fs, some (.struct fields) => decide (fields.toList.map (fun f => (f.offset, f.type)) = fs)
  | .fn, some (.func _ _ _) => true
  | .iface, some (.interface _) => true
  | .map k e, some (.map k' e') => Nat.beq k k' && Nat.beq e e'
  | .tup, _ => true
  | .oth, _ => true
  | _, _ => false

def chkI (C : Cfg) (t : Nat) (i : TypeInfo) : Bool := Nat.beq i.size (C.size t) && Nat.beq i.bytes (C.bytes.getD t 0)

def checkAt (C : Cfg) (zs : List (Option (List ZG))) (P : Program) (t : Nat) : Bool :=
  chkU (C.under t) (P.underlying t) &&
  (Nat.beq (C.size t) 0 || (match P.info? t with | some i => chkI C t i | none => false)) &&
  (match zs.getD t none with
    | none => true
    | some gs => match P.info? t with
      | some i => chkI C t i && (match i.zero with | some z => chkZ gs z.cells.toList | none => false)
      | none => false) &&
  (match C.ty t with
    | none => true
    | some T => Nat.beq T.size (C.size t) && (match P.info? t with
      | some i => chkI C t i && Nat.ble i.bytes 65536 && (match i.zero with
        | some z => (match chkT T z.cells.toList with | some [] => true | _ => false)
        | none => false)
      | none => false))

theorem chkI_ok {C : Cfg} {t : Nat} {i : TypeInfo} (h : chkI C t i = true) : i.size = C.size t ∧ i.bytes = C.bytes.getD t 0 := by
  simp only [chkI, Bool.and_eq_true] at h
  exact ⟨Nat.eq_of_beq_eq_true h.1, Nat.eq_of_beq_eq_true h.2⟩

theorem getD_le {α : Type} {l : List α} {n : Nat} {d : α} (h : l.length ≤ n) : l.getD n d = d := by
  simp [List.getD, List.getElem?_eq_none h]

def chkEq (P : Program) (t : Nat) : Bool :=
  (match P.underlying t with | some (.struct _) => true | _ => false) && !P.stoodInHeld t && !P.eqGuardType P.depth t && eqFieldsOk 0 (P.fieldsOf t).toList

theorem cfgOK_of {C : Cfg} {P : Program} (zs : List (Option (List ZG))) (N : Nat) (he : C.eqs.all (chkEq P) = true) (hz : C.zeros = zs.map (Option.map (List.map ZG.av))) (h1 : C.unders.length ≤ N) (h2 : C.sizes.length ≤ N) (h3 : C.tys.length ≤ N) (h4 : zs.length ≤ N)
    (h : (List.range N).all (checkAt C zs P) = true) : CfgOK C P := by
  have at_ : ∀ t, t < N → checkAt C zs P t = true := fun t ht => List.all_eq_true.1 h t (List.mem_range.2 ht)
  have under : ∀ t, C.under t ≠ .oth → chkU (C.under t) (P.underlying t) = true := by
    intro t ht
    by_cases hN : t < N
    · have := at_ t hN
      simp only [checkAt, Bool.and_eq_true] at this
      exact this.1.1.1
    · exact absurd (getD_le (Nat.le_trans h1 (Nat.le_of_not_lt hN))) ht
  have go : ∀ t u, C.under t = u → u ≠ .oth → chkU u (P.underlying t) = true := fun t u e hn => by
    have := under t (by rw [e]; exact hn)
    rwa [e] at this
  refine ⟨?_, ?_, ?_, ?_, ?_, ?_, ?_, ?_, ?_, ?_, ?_, ?_, ?_, ?_⟩
  · intro t k e
    have := go t _ e (by simp)
    unfold chkU at this
    split at this <;> first | (rename_i h1 h2; cases h1; done) | (rename_i h1; cases h1; done) | (cases this; done) | skip
    rename_i k' j h1 h2
    cases h1
    rw [of_decide_eq_true this]
    exact h2
  · intro t e
    have := go t _ e (by simp)
    unfold chkU at this
    split at this <;> first | (rename_i h1 h2; cases h1; done) | (rename_i h1; cases h1; done) | (cases this; done) | skip
    rename_i h1 h2
    exact h2
  · intro t e
    have := go t _ e (by simp)
    unfold chkU at this
    split at this <;> first | (rename_i h1 h2; cases h1; done) | (rename_i h1; cases h1; done) | (cases this; done) | skip
    rename_i h1 h2
    exact h2
  · intro t e he
    have := go t _ he (by simp)
    unfold chkU at this
    split at this <;> first | (rename_i h1 h2; cases h1; done) | (rename_i h1; cases h1; done) | (cases this; done) | skip
    rename_i a b h1 h2
    cases h1
    rw [Nat.eq_of_beq_eq_true this]
    exact h2
  · intro t e he
    have := go t _ he (by simp)
    unfold chkU at this
    split at this <;> first | (rename_i h1 h2; cases h1; done) | (rename_i h1; cases h1; done) | (cases this; done) | skip
    rename_i a b h1 h2
    cases h1
    rw [Nat.eq_of_beq_eq_true this]
    exact h2
  · intro t n e he
    have := go t _ he (by simp)
    unfold chkU at this
    split at this <;> first | (rename_i h1 h2; cases h1; done) | (rename_i h1; cases h1; done) | (cases this; done) | skip
    rename_i a b c d h1 h2
    cases h1
    simp only [Bool.and_eq_true] at this
    rw [Nat.eq_of_beq_eq_true this.1, Nat.eq_of_beq_eq_true this.2]
    exact h2
  · intro t fs he
    have := go t _ he (by simp)
    unfold chkU at this
    split at this <;> first | (rename_i h1 h2; cases h1; done) | (rename_i h1; cases h1; done) | (cases this; done) | skip
    rename_i a b h1 h2
    cases h1
    exact ⟨_, h2, of_decide_eq_true this⟩
  · intro t he
    have := go t _ he (by simp)
    unfold chkU at this
    split at this <;> first | (rename_i h1 h2; cases h1; done) | (rename_i h1; cases h1; done) | (cases this; done) | skip
    rename_i a b c h1 h2
    exact ⟨_, _, _, h2⟩
  · intro t he
    have := go t _ he (by simp)
    unfold chkU at this
    split at this <;> first | (rename_i h1 h2; cases h1; done) | (rename_i h1; cases h1; done) | (cases this; done) | skip
    rename_i a h1 h2
    exact ⟨_, h2⟩
  · intro t k e he
    have := go t _ he (by simp)
    unfold chkU at this
    split at this <;> first | (rename_i h1 h2; cases h1; done) | (rename_i h1; cases h1; done) | (cases this; done) | skip
    rename_i a b c d h1 h2
    cases h1
    simp only [Bool.and_eq_true] at this
    rw [Nat.eq_of_beq_eq_true this.1, Nat.eq_of_beq_eq_true this.2]
    exact h2
  · intro t ht
    have := List.all_eq_true.1 he t (List.contains_iff_mem.1 ht)
    simp only [chkEq, Bool.and_eq_true, Bool.not_eq_true'] at this
    obtain ⟨⟨⟨h1, h2⟩, h3⟩, h4⟩ := this
    refine ⟨?_, h2, h3, h4⟩
    unfold Program.fieldsOf
    split at h1
    · rename_i fs hu; rw [hu]
    · cases h1
  · intro t ht
    by_cases hN : t < N
    · have := at_ t hN
      simp only [checkAt, Bool.and_eq_true, Bool.or_eq_true] at this
      rcases this.1.1.2 with h | h
      · exact absurd (Nat.eq_of_beq_eq_true h) ht
      · split at h
        · rename_i i hi
          exact ⟨i, hi, chkI_ok h⟩
        · cases h
    · exact absurd (getD_le (Nat.le_trans h2 (Nat.le_of_not_lt hN))) ht
  · intro t gs hgs
    have e : (zs.getD t none).map (List.map ZG.av) = some gs := by
      rw [← hgs, Cfg.zero, hz]
      simp only [List.getD, List.getElem?_map]
      cases zs[t]? <;> rfl
    rw [Option.map_eq_some_iff] at e
    obtain ⟨zg, e1, rfl⟩ := e
    by_cases hN : t < N
    · have := at_ t hN
      simp only [checkAt, Bool.and_eq_true] at this
      have h := this.1.2
      rw [e1] at h
      simp only at h
      split at h
      · rename_i i hi
        simp only [Bool.and_eq_true] at h
        obtain ⟨k1, k2⟩ := h
        split at k2
        · rename_i z hiz
          obtain ⟨k3, k4⟩ := chkI_ok k1
          exact ⟨i, z, hi, k3, k4, hiz, fun g => chkZ_ok k2⟩
        · cases k2
      · cases h
    · rw [getD_le (Nat.le_trans h4 (Nat.le_of_not_lt hN))] at e1
      cases e1
  · intro t T hT
    by_cases hN : t < N
    · have := at_ t hN
      simp only [checkAt, Bool.and_eq_true] at this
      have h := this.2
      rw [hT] at h
      simp only [Bool.and_eq_true] at h
      obtain ⟨k0, h⟩ := h
      split at h
      · rename_i i hi
        simp only [Bool.and_eq_true] at h
        obtain ⟨⟨k1, kb⟩, k2⟩ := h
        split at k2
        · rename_i z hiz
          obtain ⟨k3, k4⟩ := chkI_ok k1
          refine ⟨Nat.eq_of_beq_eq_true k0, i, z, hi, k3, k4, Nat.le_of_ble_eq_true kb, hiz, fun fz => ?_⟩
          split at k2
          · rename_i hr
            obtain ⟨c, e, q⟩ := chkT_ok (fz := fz) hr
            rw [List.append_nil] at e
            rw [e]
            exact q
          · cases k2
        · cases k2
      · cases h
    · have e : C.ty t = none := getD_le (Nat.le_trans h3 (Nat.le_of_not_lt hN))
      rw [e] at hT
      cases hT

/-! ### Loops of a function -/
theorem findLoop_ok : ∀ {l : List Code}, idsOk (l.map firstRegion) = true → ∀ {b : Code}, b ∈ l → findLoop l (firstRegion b) = b
  | [], _, _, h => by simp at h
  | c :: l, hk, b, h => by
    simp only [List.map_cons, idsOk, Bool.and_eq_true, Bool.not_eq_true'] at hk
    simp only [findLoop]
    by_cases he : firstRegion c = firstRegion b
    · rw [he, Nat.beq_refl, cond_true]
      rcases List.mem_cons.1 h with rfl | h
      · rfl
      · have : (l.map firstRegion).contains (firstRegion c) = true := by
          rw [List.contains_iff_mem, he]
          exact List.mem_map.2 ⟨b, h, rfl⟩
        rw [this] at hk
        cases hk.1
    · rw [beq_false he, cond_false]
      rcases List.mem_cons.1 h with rfl | h
      · exact absurd rfl he
      · exact findLoop_ok hk.2 h

theorem loopAt_ok {c b : Code} {fn : Func} (hb : fn.body = some c) (hf : funOk fn = true) (h : b ∈ loopsOf c) : loopAt c (firstRegion b) = b := by
  unfold funOk at hf
  rw [hb] at hf
  simp only [Bool.and_eq_true] at hf
  exact findLoop_ok hf.1.1.1.2 h

/-- The summaries of loops, one after the other. -/
def LoopsOK (E : Env0) : List (Key × LSpec) → Prop
  | [] => True
  | (k, l) :: r => (∃ fn c, find E.F k.f = some fn ∧ fn.body = some c ∧ LoopOK E k.d k.f k.base (loopAt c k.id) l) ∧ LoopsOK E r

theorem findL_in {l : List (Key × LSpec)} {E : Env0} (h : LoopsOK E l) {k : Key} {s : LSpec} (hk : findL l k = some s) : ∃ fn c, find E.F k.f = some fn ∧ fn.body = some c ∧ LoopOK E k.d k.f k.base (loopAt c k.id) s := by
  induction l with
  | nil => cases hk
  | cons x l ih =>
    obtain ⟨j, u⟩ := x
    simp only [findL] at hk
    cases hb : j.beq k
    · rw [hb] at hk; exact ih h.2 hk
    · rw [hb] at hk
      simp only [cond_true, Option.some.injEq] at hk
      subst hk
      simp only [Key.beq, Bool.and_eq_true] at hb
      obtain ⟨fn, c, h1, h2, h3⟩ := h.1
      rw [← Nat.eq_of_beq_eq_true hb.1.1.1, ← Nat.eq_of_beq_eq_true hb.1.1.2, ← Nat.eq_of_beq_eq_true hb.1.2, ← Nat.eq_of_beq_eq_true hb.2]
      exact ⟨fn, c, h1, h2, h3⟩

def FunsOK (P : Program) : List (Nat × Func) → Prop
  | [] => True
  | (f, fn) :: r => (P.funcs[f]? = some fn ∧ funOk fn = true) ∧ FunsOK P r

theorem funs_find {P : Program} : ∀ {l : List (Nat × Func)}, FunsOK P l → ∀ {f : Nat} {fn : Func}, find l f = some fn → P.funcs[f]? = some fn ∧ funOk fn = true
  | [], _, _, _, h => nomatch h
  | (f, fn) :: l, ⟨h1, h2⟩, k, u, h => by
    by_cases hk : f = k
    · subst hk; rw [find_cons_same] at h; cases h; exact h1
    · rw [find_cons_other _ _ hk] at h; exact funs_find h2 h

def PuresOK (P : Program) (C : Cfg) : List (Nat × PSpec) → Prop
  | [] => True
  | (f, p) :: r => (PureOK P C f p ∧ Enterable P f) ∧ PuresOK P C r

theorem pures_find {P : Program} {C : Cfg} : ∀ {l : List (Nat × PSpec)}, PuresOK P C l → ∀ {f : Nat} {p : PSpec}, find l f = some p → PureOK P C f p ∧ Enterable P f
  | [], _, _, _, h => nomatch h
  | (f, fn) :: l, ⟨h1, h2⟩, k, u, h => by
    by_cases hk : f = k
    · subst hk; rw [find_cons_same] at h; cases h; exact h1
    · rw [find_cons_other _ _ hk] at h; exact pures_find h2 h

def CallsOK (P : Program) (C : Cfg) : List (Nat × CSpec) → Prop
  | [] => True
  | (f, p) :: r => (CallOK P C f p ∧ p.ok = true ∧ Enterable P f) ∧ CallsOK P C r

theorem calls_find {P : Program} {C : Cfg} : ∀ {l : List (Nat × CSpec)}, CallsOK P C l → ∀ {f : Nat} {p : CSpec}, find l f = some p → CallOK P C f p ∧ p.ok = true ∧ Enterable P f
  | [], _, _, _, h => nomatch h
  | (f, fn) :: l, ⟨h1, h2⟩, k, u, h => by
    by_cases hk : f = k
    · subst hk; rw [find_cons_same] at h; cases h; exact h1
    · rw [find_cons_other _ _ hk] at h; exact calls_find h2 h

/-- The loops over functions of a program. -/
def codesOf (P : Program) (f id : Nat) : Option LCode :=
  match P.funcs[f]? with
  | some fn => match fn.body with
    | some c => find (rangesOf fn.ntmps c) id
    | none => none
  | none => none

def FreshesOK (P : Program) (C : Cfg) : List (Nat × RSpec) → Prop
  | [] => True
  | (f, p) :: r => (FreshOK P C f p ∧ Enterable P f) ∧ FreshesOK P C r

theorem fresh_find {P : Program} {C : Cfg} : ∀ {l : List (Nat × RSpec)}, FreshesOK P C l → ∀ {f : Nat} {p : RSpec}, find l f = some p → FreshOK P C f p ∧ Enterable P f
  | [], _, _, _, h => nomatch h
  | (f, fn) :: l, ⟨h1, h2⟩, k, u, h => by
    by_cases hk : f = k
    · subst hk; rw [find_cons_same] at h; cases h; exact h1
    · rw [find_cons_other _ _ hk] at h; exact fresh_find h2 h

theorem envOK_of {P : Program} {E : Env0} (hcd : ∀ f id, Codes.cd f id = codesOf P f id) (h0 : P.follows .mixedOrders = true) (h1 : CfgOK E.C P) (h2 : PuresOK P E.C E.P) (h5 : CallsOK P E.C E.S) (h3 : FunsOK P E.F) (h4 : LoopsOK E E.L) (h6 : FreshesOK P E.C E.R := by trivial) : EnvOK P E :=
  ⟨h0, h1, fun _ _ h => pures_find h2 h, fun _ _ h => fresh_find h6 h, fun _ _ h => calls_find h5 h, fun _ _ h => funs_find h3 h, fun f fn c hf hb id => by rw [hcd]; unfold codesOf; rw [(funs_find h3 hf).1]; simp only; rw [hb], fun d base f fn c b l hf hb hm hl => by
    obtain ⟨fn', c', e1, e2, e3⟩ := findL_in h4 hl
    simp only at e1 e3
    rw [hf] at e1
    cases e1
    rw [hb] at e2
    cases e2
    rw [loopAt_ok hb (funs_find h3 hf).2 hm] at e3
    exact e3⟩

/-- A loop whose summary is told by steps. -/
theorem loopOK_of {E : Env0} {d f base : Nat} {c : Code} {l : LSpec} (h0 : l.ok = true) (step : Nat → l.head.den → Option (outDen l.outs)) (h1 : ∀ x o, l.fn x = some o → ∃ n, step n x = some o) (h2 : ∀ x, step 0 x = none)
    (h3 : ∀ n x, runB E d f base c l (step n) x = step (n + 1) x) : LoopOK E d f base c l :=
  ⟨h0, step, h1, h2, fun n x o h => by rw [h3]; exact h⟩

end Go.V
