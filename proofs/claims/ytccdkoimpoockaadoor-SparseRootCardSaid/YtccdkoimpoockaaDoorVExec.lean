/- One operation. -/
import Derived.Test.YtccdkoimpoockaaDoorVCopy
set_option linter.all false
set_option linter.unusedVariables false
set_option linter.unusedSectionVars false
set_option linter.unusedSimpArgs false
namespace Go.V
variable [Codes]
section
variable {C : Cfg} {P : Program}

/-- The variables that the calls leave alone. -/
def GlobOK (C : Cfg) (fz : Nat → Nat → Option Value) : Prop := ∀ n v, C.glob n = some v → ∃ gs cs, v = .eptr gs ∧ PsR fz gs cs ∧ Fz fz n 0 cs

theorem GlobOK.mono {fz fz' : Nat → Nat → Option Value} (h : GlobOK C fz) (hf : ∀ b o v, fz b o = some v → fz' b o = some v) : GlobOK C fz' := fun n v e => by
  obtain ⟨gs, cs, h1, h2, h3⟩ := h n v e
  exact ⟨gs, cs, h1, h2.mono hf, h3.mono hf⟩

theorem ofConst_ok {g : Gh} {c : Value} {v : AV} (h : ofConst c = some v) : VR g v c := by
  unfold ofConst at h
  split at h <;> first | (cases h; done) | (simp only [Option.some.injEq] at h; subst h; exact rfl)

theorem ev_ok {g : Gh} {s : St} {tm : Array Value} {tms : List (Array Value)} {w : World} (hs : StR g s tm tms w) (hG : GlobOK C g.fz) {x : Operand} {v : AV} (h : ev C s.env x = some v) (d : List Deferred) :
    VR g v (Act.eval ⟨tm, d⟩ x) := by
  cases x with
  | tmp t => exact hs.env t v h
  | const c => exact ofConst_ok h
  | global n =>
    obtain ⟨gs, cs, rfl, h2, h3⟩ := hG n v h
    exact ⟨n, 0, cs, rfl, h2, h3⟩
  | func f =>
    simp only [ev, Option.some.injEq] at h
    subst h
    exact ⟨#[], rfl, trivial⟩

theorem evL_ok {g : Gh} {s : St} {tm : Array Value} {tms : List (Array Value)} {w : World} (hs : StR g s tm tms w) (hG : GlobOK C g.fz) (d : List Deferred) : ∀ {l : List Operand} {vs : List AV}, evL C s.env l = some vs → VsR g vs (l.map (Act.eval ⟨tm, d⟩))
  | [], vs, h => by
    simp only [evL, Option.some.injEq] at h
    subst h
    exact trivial
  | x :: l, vs, h => by
    simp only [evL] at h
    split at h
    · rename_i v hv
      rw [Option.map_eq_some_iff] at h
      obtain ⟨r, hr, rfl⟩ := h
      exact ⟨ev_ok hs hG hv d, evL_ok hs hG d hr⟩
    · cases h

theorem evP_ok {g : Gh} {s : St} {tm : Array Value} {tms : List (Array Value)} {w : World} (hs : StR g s tm tms w) (hG : GlobOK C g.fz) (d : List Deferred) : ∀ {l : List (Nat × Operand)} {vs : List (Nat × AV)}, evP C s.env l = some vs → PartsR g vs (l.map fun (i, x) => (i, Act.eval ⟨tm, d⟩ x))
  | [], vs, h => by
    simp only [evP, Option.some.injEq] at h
    subst h
    exact trivial
  | (i, x) :: l, vs, h => by
    simp only [evP] at h
    split at h
    · rename_i v hv
      rw [Option.map_eq_some_iff] at h
      obtain ⟨r, hr, rfl⟩ := h
      exact ⟨rfl, ev_ok hs hG hv d, evP_ok hs hG d hr⟩
    · cases h

theorem idxO_ok {g : Gh} {s : St} {tm : Array Value} {tms : List (Array Value)} {w : World} (hs : StR g s tm tms w) (hG : GlobOK C g.fz) (d : List Deferred) {x : Option Operand} {i : Option Int} (h : idxO C s.env x = some i) : LoR i (x.map (Act.eval ⟨tm, d⟩)) := by
  unfold idxO at h
  split at h
  · simp only [Option.some.injEq] at h
    subst h
    exact trivial
  · split at h
    · rename_i v hv
      split at h
      · rename_i i' hi
        simp only [Option.some.injEq] at h
        subst h
        obtain ⟨k, hk⟩ := idx_ok hi (ev_ok hs hG hv d)
        exact ⟨k, hk⟩
      · cases h
    · cases h

theorem capsOk_ok {g : Gh} : ∀ {l : List AV} {vs : List Value}, capsOk l = true → VsR g l vs → CapsR g l vs
  | [], [], _, _ => trivial
  | [], _ :: _, _, h => h.elim
  | _ :: _, [], _, h => h.elim
  | v :: l, c :: vs, h, ⟨h1, h2⟩ => by
    cases v <;> first | (simp only [capsOk, Bool.false_eq_true] at h; done) | skip
    case ptr b off p =>
      match off, p, h, h1 with
      | 0, [], h, h1 =>
        obtain ⟨gb, blk, e1, e2, e3, _, e4⟩ := h1
        simp only [List.cons.injEq, and_true] at e4
        exact ⟨⟨gb, blk, e1, e2, e3, by rw [e4]; rfl⟩, capsOk_ok h h2⟩

/-- What an operation yields. -/
def NextR (g : Gh) (v : AV) (n : Next) : Prop := (∃ z, n = .value z ∧ VR g v z) ∨ (n = .skip ∧ VR g v undef)

/-- What one operation does. -/
def Does (P : Program) (g : Gh) (s : St) (tm : Array Value) (tms : List (Array Value)) (w : World) (v : AV) (x : Sem Next) : Prop :=
  ∃ n w' g', x.run P w = .ok n w' ∧ NextR g' v n ∧ StR g' s tm tms w' ∧ Tr g w g' w'

theorem Does.val {g g' : Gh} {s' : St} {tm : Array Value} {tms : List (Array Value)} {w w' : World} {v : AV} {x : Sem Value} {z : Value} (h : x.run P w = .ok z w') (hv : VR g' v z) (hs : StR g' s' tm tms w') (ht : Tr g w g' w') :
    Does P g s' tm tms w v (do pure (.value (← x))) := by
  refine ⟨.value z, w', g', ?_, .inl ⟨z, rfl, hv⟩, hs, ht⟩
  rw [Sem.run_bind, h]
  rfl

theorem Does.val0 {g : Gh} {s : St} {tm : Array Value} {tms : List (Array Value)} {w : World} {v : AV} {x : Sem Value} {z : Value} (h : x.run P w = .ok z w) (hv : VR g v z) (hs : StR g s tm tms w) :
    Does P g s tm tms w v (do pure (.value (← x))) := Does.val h hv hs (Tr.refl _ _)

theorem keyFree_some {bx : Bxs} {k : Nat} {r : R3} {c : Bool} {v : AV} {e : Eff} (h : keyFree bx k r = some (c, v, e)) : find bx k = none ∧ r = some (c, v, e) := by
  unfold keyFree at h
  split at h
  · cases h
  · rename_i hk; exact ⟨hk, h⟩

theorem resolve_builtin (ρ : Operand → Value) (b : Builtin) (args : Array Operand) (ts : Array TypeId) (ty : TypeId) :
    resolve ρ { callee := .builtin b, args := args, argTypes := ts } ty = pure { target := .builtin b ts ty (args.map fun | .const _ => true | _ => false), args := args.map ρ } := rfl

theorem execA_ok (hC : CfgOK C P) {g : Gh} {s : St} {tm : Array Value} {tms : List (Array Value)} {w : World} (hs : StR g s tm tms w) (hG : GlobOK C g.fz) {base : Nat} {o : Oper} {v : AV} {e : Eff} (h : execA C base o s = some (true, v, e)) (d : List Deferred) :
    Does P g (e.apply s) tm tms w v (execOp (Act.eval ⟨tm, d⟩) o) := by
  unfold execA at h
  simp only at h
  split at h
  · -- move
    rename_i x hop
    split at h
    · rename_i v' hv
      simp only [ok, Option.some.injEq, Prod.mk.injEq, true_and] at h
      obtain ⟨rfl, rfl⟩ := h
      simp only [execOp, hop]
      exact ⟨_, w, g, rfl, .inl ⟨_, rfl, ev_ok hs hG hv d⟩, hs, Tr.refl _ _⟩
    · cases h
  · rename_i x hop
    split at h
    · rename_i v' hv
      simp only [ok, Option.some.injEq, Prod.mk.injEq, true_and] at h
      obtain ⟨rfl, rfl⟩ := h
      simp only [execOp, hop]
      exact ⟨_, w, g, rfl, .inl ⟨_, rfl, ev_ok hs hG hv d⟩, hs, Tr.refl _ _⟩
    · cases h
  · -- alloc
    rename_i t hop
    split at h
    · rename_i gs hz
      obtain ⟨hk, h⟩ := keyFree_some h
      simp only [Option.some.injEq, Prod.mk.injEq, true_and] at h
      obtain ⟨rfl, rfl⟩ := h
      obtain ⟨i, z, hi, _, _, hiz, hg⟩ := hC.zero t gs hz
      obtain ⟨w', g', h1, h2, h3, h4⟩ := newVar_ok (P := P) hs hk (hg g) t
      simp only [execOp, hop]
      refine Does.val (z := .pointer (some ⟨w.heap.size, 0, none⟩)) ?_ h2 h3 h4
      simp only [Instr.alloc, Sem.run_bind, zeroValue, typeInfo, run_program, Result.andThen_ok, hi, hiz, Sem.run_pure, h1]
    · cases h
  · -- box
    rename_i t x hop
    split at h
    · rename_i v' hv
      split at h
      · rename_i hok
        obtain ⟨hk, h⟩ := keyFree_some h
        simp only [Option.some.injEq, Prod.mk.injEq, true_and] at h
        obtain ⟨rfl, rfl⟩ := h
        obtain ⟨w', g', h1, h2, h3, h4⟩ := newVar_ok (P := P) hs hk ((ev_ok hs hG hv d).gs hok) t
        simp only [execOp, hop]
        refine Does.val (z := .pointer (some ⟨w.heap.size, 0, none⟩)) ?_ h2 h3 h4
        simp only [Instr.box, Sem.run_bind, h1, Result.andThen_ok, Sem.run_pure]
      · cases h
    · cases h
  · -- build
    rename_i t parts hop
    split at h
    · rename_i ps hp
      have hp' := evP_ok hs hG d hp
      obtain ⟨rfl, z, h1, h2⟩ := buildV_ok hC hs h (vs := parts.map fun (i, x) => (i, Act.eval ⟨tm, d⟩ x)) (by rw [Array.toList_map]; exact hp')
      simp only [execOp, hop]
      exact Does.val0 h1 h2 hs
    · cases h
  · -- buildSlice
    rename_i t n parts hop
    split at h
    · rename_i ps hp
      have hp' := evP_ok hs hG d hp
      obtain ⟨rfl, z, w', g', h1, h2, h3, h4⟩ := buildSliceV_ok hC hs h (vs := parts.map fun (i, x) => (i, Act.eval ⟨tm, d⟩ x)) (by rw [Array.toList_map]; exact hp')
      simp only [execOp, hop]
      exact Does.val h1 h2 h3 h4
    · cases h
  · -- load
    rename_i t x hop
    split at h
    · rename_i a ha
      obtain ⟨rfl, z, h1, h2⟩ := loadV_ok hC hs h (ev_ok hs hG ha d)
      simp only [execOp, hop]
      exact Does.val0 h1 h2.vr' hs
    · cases h
  · -- store
    rename_i t x y hop
    split at h
    · rename_i a b ha hb
      obtain ⟨rfl, w', h1, h2, h3⟩ := storeV_ok hC hs h (ev_ok hs hG ha d) (ev_ok hs hG hb d)
      simp only [execOp, hop]
      refine ⟨.skip, w', g, ?_, .inr ⟨rfl, #[], rfl, trivial⟩, h2, h3⟩
      rw [Sem.run_bind, h1]
      rfl
    · cases h
  · -- nilCheck
    rename_i x hop
    have main : ∀ v', ev C s.env x = some v' → v'.isPtr = true → Does P g s tm tms w v' (execOp (Act.eval ⟨tm, d⟩) o) := by
      intro v' hv hp
      have h1 := ev_ok hs hG hv d
      obtain ⟨ad, h2⟩ := ptr_form h1 hp
      simp only [execOp, hop, h2]
      rw [h2] at h1
      exact ⟨_, w, g, rfl, .inl ⟨_, rfl, h1⟩, hs, Tr.refl _ _⟩
    split at h
    · rename_i hv
      simp only [ok, Option.some.injEq, Prod.mk.injEq, true_and] at h
      obtain ⟨rfl, rfl⟩ := h
      exact main _ hv rfl
    · rename_i hv
      simp only [ok, Option.some.injEq, Prod.mk.injEq, true_and] at h
      obtain ⟨rfl, rfl⟩ := h
      exact main _ hv rfl
    · rename_i hv
      simp only [ok, Option.some.injEq, Prod.mk.injEq, true_and] at h
      obtain ⟨rfl, rfl⟩ := h
      exact main _ hv rfl
    · cases h
  · -- binOp
    rename_i op t x y yt hop
    split at h
    · rename_i a b ha hb
      obtain ⟨rfl, z, h1, h2⟩ := binV_ok hC h (w := w) (ev_ok hs hG ha d) (ev_ok hs hG hb d) x y
      simp only [execOp, hop]
      exact Does.val0 h1 h2 hs
    · cases h
  · -- unOp
    rename_i op t x hop
    split at h
    · rename_i a ha
      obtain ⟨rfl, z, h1, h2⟩ := unV_ok (P := P) (w := w) h (ev_ok hs hG ha d)
      simp only [execOp, hop]
      exact Does.val0 h1 h2 hs
    · cases h
  · -- convert
    rename_i src dst x hop
    split at h
    · rename_i a ha
      have h' : convertV C s.bxs (base + o.dst.getD 0) src dst a = some (true, v, e) ∧ ∀ k b, e = .add k b → find s.bxs k = none := by
        split at h
        · rename_i c v' k b hc
          obtain ⟨hk, h⟩ := keyFree_some h
          simp only [Option.some.injEq, Prod.mk.injEq] at h
          obtain ⟨rfl, rfl, rfl⟩ := h
          refine ⟨hc, fun k' b' e' => ?_⟩
          cases e'
          have : k = base + o.dst.getD 0 := by
            unfold convertV at hc
            split at hc
            · simp [ok] at hc
            · simp [ok] at hc
            · split at hc
              · split at hc
                · simp [ok] at hc
                · cases hc
              · cases hc
            · split at hc
              · simp only [Option.some.injEq, Prod.mk.injEq, Eff.add.injEq] at hc
                exact hc.2.2.1.symm
              · cases hc
            · cases hc
          rw [this]
          exact hk
        · rename_i r hr
          refine ⟨h, fun k b e' => ?_⟩
          subst e'
          exact absurd h (hr true v k b)
      obtain ⟨z, w', g', h1, h2, h3, h4⟩ := convertV_ok hC hs h'.1 h'.2 (ev_ok hs hG ha d)
      simp only [execOp, hop]
      exact Does.val h1 h2 h3 h4
    · cases h
  · -- makeFunc
    rename_i f first captured hop
    split at h
    · rename_i l hf hl
      split at h
      · rename_i hc
        simp only [ok, Option.some.injEq, Prod.mk.injEq, true_and] at h
        obtain ⟨rfl, rfl⟩ := h
        have h1 := evL_ok hs hG d hl
        have hfirst : first = #[] := by
          cases first; simp only at hf; subst hf; rfl
        subst hfirst
        simp only [execOp, hop]
        refine Does.val0 (z := .func (.func f) #[] (captured.map (Act.eval ⟨tm, d⟩))) (by simp [Instr.makeFunc]) ⟨_, rfl, ?_⟩ hs
        rw [Array.toList_map]
        exact capsOk_ok hc h1
      · cases h
    · cases h
  · -- makeSlice
    rename_i t n c hop
    split at h
    · rename_i a b ha hb
      obtain ⟨hk, h⟩ := keyFree_some h
      obtain ⟨z, w', g', h1, h2, h3, h4⟩ := makeSliceV_ok hC hs h hk (ev_ok hs hG ha d) (ev_ok hs hG hb d)
      simp only [execOp, hop]
      exact Does.val h1 h2 h3 h4
    · cases h
  · -- slice
    rename_i t x lo hi mx hop
    split at h
    · rename_i a lo' hi' mx' ha h1 h2 h3
      obtain ⟨rfl, z, h4, h5⟩ := sliceV_ok hC hs h (ev_ok hs hG ha d) (idxO_ok hs hG d h1) (idxO_ok hs hG d h2) (idxO_ok hs hG d h3)
      simp only [execOp, hop]
      exact Does.val0 h4 h5 hs
    · cases h
  · -- fieldAddr
    rename_i t x f hop
    split at h
    · rename_i a ha
      obtain ⟨rfl, z, h1, h2⟩ := fieldAddrV_ok (w := w) hC h (ev_ok hs hG ha d)
      simp only [execOp, hop]
      exact Does.val0 h1 h2 hs
    · cases h
  · -- field
    rename_i t x f hop
    split at h
    · rename_i a ha
      obtain ⟨rfl, z, h1, h2⟩ := fieldV_ok (w := w) hC h (ev_ok hs hG ha d)
      simp only [execOp, hop]
      exact Does.val0 h1 h2 hs
    · cases h
  · -- indexAddr
    rename_i t x i hop
    split at h
    · rename_i a b ha hb
      obtain ⟨rfl, z, h1, h2⟩ := indexAddrV_ok hC hs h (ev_ok hs hG ha d) (ev_ok hs hG hb d)
      simp only [execOp, hop]
      exact Does.val0 h1 h2 hs
    · cases h
  · -- index
    rename_i t x i hop
    split at h
    · rename_i a b ha hb
      obtain ⟨rfl, z, h1, h2⟩ := indexV_ok (w := w) hC h (ev_ok hs hG ha d) (ev_ok hs hG hb d)
      simp only [execOp, hop]
      exact Does.val0 h1 h2 hs
    · cases h
  · -- extract
    rename_i x i hop
    split at h
    · rename_i vs hv
      split at h
      · rename_i v' hi
        simp only [ok, Option.some.injEq, Prod.mk.injEq, true_and] at h
        obtain ⟨rfl, rfl⟩ := h
        obtain ⟨arr, h1, h2⟩ := ev_ok hs hG hv d
        have h3 : ∀ {vs : List AV} {l : List Value} {i : Nat} {v : AV}, TsR g vs l → vs[i]? = some v → ∃ c, l[i]? = some c ∧ VR1 g v c := by
          intro vs
          induction vs with
          | nil => intro l i v _ h; simp at h
          | cons a vs ih =>
            intro l i v hr h
            cases l with
            | nil => exact hr.elim
            | cons c l =>
              cases i with
              | zero => simp only [List.getElem?_cons_zero, Option.some.injEq] at h; subst h; exact ⟨c, rfl, hr.1⟩
              | succ i =>
                obtain ⟨c', h1, h2⟩ := ih (l := l) (i := i) hr.2 (by simpa using h)
                exact ⟨c', by simpa using h1, h2⟩
        obtain ⟨c, h4, h5⟩ := h3 h2 hi
        simp only [execOp, hop, h1]
        refine Does.val0 (z := c) ?_ h5.vr' hs
        have : arr[i]? = some c := by rw [← Array.getElem?_toList]; exact h4
        simp [Instr.extract, this]
      · cases h
    · cases h
  · -- builtins
    rename_i b args ts hop
    split at h
    · rename_i vs hvs
      have hv := evL_ok hs hG d hvs
      have two : ∀ {x y : AV}, vs = [x, y] → ∃ a b, args.map (Act.eval ⟨tm, d⟩) = #[a, b] ∧ VR g x a ∧ VR g y b := by
        intro x y hxy
        subst hxy
        rw [← Array.toList_map] at hv
        generalize args.map (Act.eval ⟨tm, d⟩) = arr at hv ⊢
        obtain ⟨l⟩ := arr
        match l, hv with
        | [a, b], ⟨h1, h2, _⟩ => exact ⟨a, b, rfl, h1, h2⟩
      have one : ∀ {x : AV}, vs = [x] → ∃ a, args.map (Act.eval ⟨tm, d⟩) = #[a] ∧ VR g x a := by
        intro x hx
        subst hx
        rw [← Array.toList_map] at hv
        generalize args.map (Act.eval ⟨tm, d⟩) = arr at hv ⊢
        obtain ⟨l⟩ := arr
        match l, hv with
        | [a], ⟨h1, _⟩ => exact ⟨a, rfl, h1⟩
      have hts : ∀ {l : List TypeId}, ts.toList = l → ts = l.toArray := by
        intro l hl; subst hl; simp
      split at h
      · rename_i t x htl
        obtain ⟨a, ha, hx⟩ := one rfl
        obtain ⟨rfl, z, h1, h2⟩ := lenV_ok (ty := o.type) hC hs h hx
        simp only [execOp, hop, resolve_builtin, ha, hts htl]
        exact Does.val0 h1 h2 hs
      · rename_i t yt x y htl
        obtain ⟨a, b, hab, hx, hy⟩ := two rfl
        have h' : appendV C s.bxs (base + o.dst.getD 0) t x y yt = some (true, v, e) ∧ ∀ k b, e = .add k b → find s.bxs k = none := by
          split at h
          · rename_i c v' k b hc
            obtain ⟨hk, h⟩ := keyFree_some h
            simp only [Option.some.injEq, Prod.mk.injEq] at h
            obtain ⟨rfl, rfl, rfl⟩ := h
            refine ⟨hc, fun k' b' e' => ?_⟩
            cases e'
            have : k = base + o.dst.getD 0 := by
              unfold appendV at hc
              repeat' split at hc
              all_goals first
                | (cases hc; done)
                | (simp only [Option.some.injEq, Prod.mk.injEq, Eff.add.injEq] at hc; exact hc.2.2.1.symm)
                | (simp only [Option.some.injEq, Prod.mk.injEq, reduceCtorEq, and_false] at hc)
                | (rename_i hh; cases hb : (!_ || _ : Bool) <;> simp [hb] at hc)
                | skip
              all_goals (simp only [cond_eq_ite] at hc; split at hc <;> simp at hc)
            rw [this]
            exact hk
          · rename_i r hr
            refine ⟨h, fun k b e' => ?_⟩
            subst e'
            exact absurd h (hr true v k b)
        obtain ⟨z, w', g', h1, h2, h3, h4⟩ := appendV_ok (ty := o.type) hC hs h'.1 h'.2 hx hy
        simp only [execOp, hop, resolve_builtin, hab, hts htl]
        exact Does.val h1 h2 h3 h4
      · rename_i t yt x y htl
        obtain ⟨a, b, hab, hx, hy⟩ := two rfl
        obtain ⟨z, w', h1, h2, h3, h4⟩ := copyV_ok (yt := yt) (ty := o.type) hC hs h hx hy
        simp only [execOp, hop, resolve_builtin, hab, hts htl]
        exact Does.val h1 h2 h3 h4
      · split at h
        · rename_i v' hv'
          simp only [ok, Option.some.injEq, Prod.mk.injEq, true_and] at h
          obtain ⟨rfl, rfl⟩ := h
          obtain ⟨z, h1, h2⟩ := minV_ok (P := P) (w := w) hv' (args := args.map (Act.eval ⟨tm, d⟩)) (by rw [Array.toList_map]; exact hv) ts o.type
          simp only [execOp, hop, resolve_builtin]
          exact Does.val0 h1 h2 hs
        · cases h
      · split at h
        · rename_i v' hv'
          simp only [ok, Option.some.injEq, Prod.mk.injEq, true_and] at h
          obtain ⟨rfl, rfl⟩ := h
          obtain ⟨z, h1, h2⟩ := maxV_ok (P := P) (w := w) hv' (args := args.map (Act.eval ⟨tm, d⟩)) (by rw [Array.toList_map]; exact hv) ts o.type
          simp only [execOp, hop, resolve_builtin]
          exact Does.val0 h1 h2 hs
        · cases h
      · cases h
    · cases h
  · cases h

end
end Go.V
