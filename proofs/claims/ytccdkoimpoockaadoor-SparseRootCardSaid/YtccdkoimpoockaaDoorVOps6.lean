/- Arithmetic and comparisons. -/
import Derived.Test.YtccdkoimpoockaaDoorVOps5
set_option linter.all false
set_option linter.unusedVariables false
set_option linter.unusedSectionVars false
set_option linter.unusedSimpArgs false
namespace Go.V
variable [Codes]
section
variable {C : Cfg} {P : Program}

theorem toList_inj {a b : ByteArray} : (a.toList == b.toList) = decide (a = b) := by
  rw [Bool.eq_iff_iff, beq_iff_eq, decide_eq_true_iff]
  constructor
  · intro h
    rw [ByteArray.toList_eq, ByteArray.toList_eq] at h
    obtain ⟨⟨a⟩⟩ := a
    obtain ⟨⟨b⟩⟩ := b
    simp only at h
    rw [h]
  · intro h; rw [h]

theorem intOp_ok {g : Gh} {w : World} {op : BinOp} {k j : IntKind} {a b : Int} {t : TypeId} {v : AV} {e : Eff} (hj : (op = .shl ∨ op = .shr) ∨ k = j) (h : intOp op k a b = some (true, v, e)) :
    e = .none ∧ ∃ z, (binOp op t (.int k a) (.int j b)).run P w = .ok z w ∧ VR g v z := by
  cases op
  case shl =>
    simp only [intOp, okIf, Option.some.injEq, Prod.mk.injEq, decide_eq_true_eq] at h
    obtain ⟨h0, rfl, rfl⟩ := h
    exact ⟨rfl, _, by simp [binOp, Op.shift, show ¬ b < 0 by omega]; rfl, rfl⟩
  case shr =>
    simp only [intOp, okIf, Option.some.injEq, Prod.mk.injEq, decide_eq_true_eq] at h
    obtain ⟨h0, rfl, rfl⟩ := h
    exact ⟨rfl, _, by simp [binOp, Op.shift, show ¬ b < 0 by omega]; rfl, rfl⟩
  all_goals
    rcases hj with (hj | hj) | hj <;> first | (cases hj; done) | skip
    subst hj
  case quo =>
    simp only [intOp, okIf, Option.some.injEq, Prod.mk.injEq, decide_eq_true_eq] at h
    obtain ⟨h0, rfl, rfl⟩ := h
    exact ⟨rfl, _, by simp [binOp, Op.intDiv, h0], rfl⟩
  case rem =>
    simp only [intOp, okIf, Option.some.injEq, Prod.mk.injEq, decide_eq_true_eq] at h
    obtain ⟨h0, rfl, rfl⟩ := h
    exact ⟨rfl, _, by simp [binOp, Op.intDiv, h0], rfl⟩
  all_goals
    simp only [intOp, ok, okB, Option.some.injEq, Prod.mk.injEq, true_and] at h
    obtain ⟨rfl, rfl⟩ := h
    refine ⟨rfl, _, ?_, rfl⟩
    simp only [binOp, ne_eq, not_true_eq_false, if_false, Op.intArith, Op.intBits, Op.intCmp]
    first | rfl | (simp only [Sem.run_pure]; congr 2; rw [Bool.eq_iff_iff]; simp)
  
theorem strOp_ok {g : Gh} {w : World} {op : BinOp} {a b : ByteArray} {t : TypeId} {v : AV} {e : Eff} (h : strOp op a b = some (true, v, e)) :
    e = .none ∧ ∃ z, (binOp op t (.string a) (.string b)).run P w = .ok z w ∧ VR g v z := by
  cases op <;> simp only [strOp, okIf, okB, Option.some.injEq, Prod.mk.injEq, true_and, reduceCtorEq] at h
  case add =>
    obtain ⟨h0, rfl, rfl⟩ := h
    simp only [catOk, decide_eq_true_eq] at h0
    refine ⟨rfl, .string (a ++ b), ?_, rfl⟩
    have : ¬ (((a.size + b.size : Nat) : Int) > IntKind.i64.max) := by
      show ¬ (((a.size + b.size : Nat) : Int) > 9223372036854775807)
      omega
    simp only [binOp, Op.stringOp, this, if_false]
    rfl
  all_goals
    obtain ⟨rfl, rfl⟩ := h
    refine ⟨rfl, _, by simp only [binOp, Op.stringOp]; rfl, ?_⟩
    simp only [VR, VR1, GR, CR, toList_inj, strLt]

theorem eqV_ok {op : BinOp} {c : Bool} {v : AV} {e : Eff} (h : eqV op c = some (true, v, e)) : e = .none ∧ ((op = .eql ∧ v = .val .bool c) ∨ (op = .neq ∧ v = .val .bool (!c))) := by
  cases op <;> simp only [eqV, okB, Option.some.injEq, Prod.mk.injEq, true_and, reduceCtorEq] at h
  · obtain ⟨rfl, rfl⟩ := h; exact ⟨rfl, .inl ⟨rfl, rfl⟩⟩
  · obtain ⟨rfl, rfl⟩ := h; exact ⟨rfl, .inr ⟨rfl, rfl⟩⟩

theorem run_binOp_eq {w : World} {op : BinOp} {c : Bool} {t : TypeId} {a b : Value} {v : AV} {g : Gh} (hq : (Op.equal t a b).run P w = .ok c w) (hv : (op = .eql ∧ v = .val .bool c) ∨ (op = .neq ∧ v = .val .bool (!c)))
    (hb : binOp .eql t a b = (do pure (.bool (← Op.equal t a b)))) (hb' : binOp .neq t a b = (do pure (.bool (!(← Op.equal t a b))))) : ∃ z, (binOp op t a b).run P w = .ok z w ∧ VR g v z := by
  rcases hv with ⟨rfl, rfl⟩ | ⟨rfl, rfl⟩
  · exact ⟨.bool c, by rw [hb, Sem.run_bind, hq]; rfl, rfl⟩
  · exact ⟨.bool (!c), by rw [hb', Sem.run_bind, hq]; rfl, rfl⟩

theorem equal_depth (t : TypeId) (x y : Value) : ∃ d, Op.equal t x y = Op.equalIn (d + 1) t x y := ⟨9999, rfl⟩

theorem run_equal_ptr {w : World} {t e : TypeId} (hd : P.underlying t = some (.pointer e)) (b : Option Addr) : (Op.equal t (.pointer b) (.pointer none)).run P w = .ok b.isNone w := by
  obtain ⟨d, hq⟩ := equal_depth t (.pointer b) (.pointer none)
  rw [hq]
  cases b <;> simp [Op.equalIn, run_underlying hd]

theorem run_equal_bool {w : World} {t : TypeId} (hd : P.underlying t = some .bool) (a b : Bool) : (Op.equal t (.bool a) (.bool b)).run P w = .ok (decide (a = b)) w := by
  obtain ⟨d, hq⟩ := equal_depth t (.bool a) (.bool b)
  rw [hq]
  simp only [Op.equalIn, Sem.run_bind, run_underlying hd, Result.andThen_ok, Sem.run_pure]
  cases a <;> cases b <;> rfl

theorem run_equal_nils {w : World} {t e : TypeId} (hd : P.underlying t = some (.slice e)) : (Op.equal t (.slice none 0 0) (.slice none 0 0)).run P w = .ok true w := by
  obtain ⟨d, hq⟩ := equal_depth t (.slice none 0 0) (.slice none 0 0)
  rw [hq]
  simp [Op.equalIn, run_underlying hd]

theorem run_equal_nn {w : World} {t e : TypeId} (hd : P.underlying t = some (.slice e)) (a : Addr) (n c : Nat) : (Op.equal t (.slice (some a) n c) (.slice none 0 0)).run P w = .ok false w := by
  obtain ⟨d, hq⟩ := equal_depth t (.slice (some a) n c) (.slice none 0 0)
  rw [hq]
  simp [Op.equalIn, run_underlying hd]

theorem run_equal_nilf {w : World} {t : TypeId} {x y z} (hd : P.underlying t = some (.func x y z)) : (Op.equal t .nilFunc .nilFunc).run P w = .ok true w := by
  obtain ⟨d, hq⟩ := equal_depth t .nilFunc .nilFunc
  rw [hq]
  simp [Op.equalIn, run_underlying hd]

theorem run_equal_fn {w : World} {t : TypeId} {x y z} (hd : P.underlying t = some (.func x y z)) (f : Fn) (a b : Array Value) : (Op.equal t (.func f a b) .nilFunc).run P w = .ok false w := by
  obtain ⟨d, hq⟩ := equal_depth t (.func f a b) .nilFunc
  rw [hq]
  simp [Op.equalIn, run_underlying hd]

theorem run_part_one {w : World} {t : TypeId} {d : TypeDesc} (hd : P.underlying t = some d) (ha : aggB d = false) {xs : Array Value} {o : Nat} {v : Value} (h : xs[o]? = some v) : (part t xs o).run P w = .ok v w := by
  unfold part
  rw [Sem.run_bind, run_isAgg hd, ha]
  simp [h]

/-- Structs of numbers, bools and strings. -/
theorem run_eqFields (hC : CfgOK C P) {g : Gh} {w : World} (d : Nat) (xs ys : Array Value) : ∀ (fs : List Field) (i : Nat) (a b : List AV) (c : Bool), eqFieldsOk i fs = true → eqGs C (fs.map fun f => (f.offset, f.type)) a b = some c →
    GsR g a (xs.toList.drop i) → GsR g b (ys.toList.drop i) → (Op.eqFields (d + 1) xs ys fs).run P w = .ok c w
  | [], i, a, b, c, _, h, _, _ => by
    simp only [List.map_nil] at h
    unfold eqGs at h
    split at h
    · simp only [Option.some.injEq] at h; subst h; simp [Op.eqFields]
    all_goals first | (rename_i hh _ _; cases hh; done) | (cases h; done) | skip
    all_goals (rename_i hh; cases hh)
  | f :: fs, i, a, b, c, hf, h, ha, hb => by
    simp only [eqFieldsOk, eqField, Bool.and_eq_true, Bool.not_eq_true'] at hf
    obtain ⟨⟨hn, ho⟩, hrest⟩ := hf
    have ho' := Nat.eq_of_beq_eq_true ho
    have hn' : ¬ f.name = "_" := by simpa using hn
    -- one field
    have one : ∀ {u v : AV} {x y : Value} {a' b' : List AV} {r c' : Bool} {dd : TypeDesc}, a = u :: a' → b = v :: b' → (∀ cs, GR g u cs → cs = [x]) → (∀ cs, GR g v cs → cs = [y]) → P.underlying f.type = some dd → aggB dd = false →
        (Op.equalIn (d + 1) f.type x y).run P w = .ok r w → eqGs C (fs.map fun f => (f.offset, f.type)) a' b' = some c' → (Op.eqFields (d + 1) xs ys (f :: fs)).run P w = .ok (r && c') w := by
      intro u v x y a' b' r c' dd hau hbv hu hv hd1 hd2 he hc'
      subst hau; subst hbv
      obtain ⟨c1, c2, e1, h1, h2⟩ := ha
      obtain ⟨d1, d2, e2, k1, k2⟩ := hb
      have h1' := hu _ h1
      have k1' := hv _ k1
      subst h1'; subst k1'
      have q1 : xs.toList.drop (i + 1) = c2 := by rw [← List.drop_drop, e1]; rfl
      have q2 : ys.toList.drop (i + 1) = d2 := by rw [← List.drop_drop, e2]; rfl
      have hxo : xs[f.offset]? = some x := by
        rw [ho', ← Array.getElem?_toList]
        have := congrArg (fun l => l[0]?) e1
        simpa using this
      have hyo : ys[f.offset]? = some y := by
        rw [ho', ← Array.getElem?_toList]
        have := congrArg (fun l => l[0]?) e2
        simpa using this
      have ih := run_eqFields hC (w := w) d xs ys fs (i + 1) a' b' c' hrest hc' (by rw [q1]; exact h2) (by rw [q2]; exact k2)
      simp only [Op.eqFields, ne_eq, hn', not_false_eq_true, if_true, Sem.run_bind, run_part_one hd1 hd2 hxo, run_part_one hd1 hd2 hyo, he, Result.andThen_ok]
      cases r
      · simp
      · simpa using ih
    simp only [List.map_cons] at h
    unfold eqGs at h
    split at h
    · rename_i hh; cases hh
    · rename_i o t fs' k x a' j y b' hh
      cases hh
      split at h
      · rename_i k0 hu
        split at h
        · rename_i hkj
          subst hkj
          rw [Option.map_eq_some_iff] at h
          obtain ⟨c', hc', rfl⟩ := h
          exact one (x := .int k x) (y := .int k y) rfl rfl (fun cs h => h) (fun cs h => h) (hC.int _ _ hu) rfl (run_equalIn_int w d f.type k k0 x y (hC.int _ _ hu)) hc'
        · cases h
      · cases h
    · rename_i o t fs' x a' y b' hh
      cases hh
      split at h
      · rename_i hu
        rw [Option.map_eq_some_iff] at h
        obtain ⟨c', hc', rfl⟩ := h
        refine one (x := .bool x) (y := .bool y) rfl rfl (fun cs h => h) (fun cs h => h) (hC.bool _ hu) rfl ?_ hc'
        rw [run_equalIn_bool' w d f.type x y (hC.bool _ hu)]
        congr 1
      · cases h
    · rename_i o t fs' x a' y b' hh
      cases hh
      split at h
      · rename_i hu
        rw [Option.map_eq_some_iff] at h
        obtain ⟨c', hc', rfl⟩ := h
        refine one (x := .string x) (y := .string y) rfl rfl (fun cs h => h) (fun cs h => h) (hC.str _ hu) rfl ?_ hc'
        rw [run_equalIn_string w d f.type x y (hC.str _ hu), toList_inj]
      · cases h
    · cases h

def AV.isPtr : AV → Bool
  | .ptr .. | .rptr .. | .eptr .. => true
  | _ => false

theorem ptr_form {g : Gh} {v : AV} {a : Value} (h : VR g v a) (hv : v.isPtr = true) : ∃ ad, a = .pointer (some ad) := by
  cases v <;> simp only [AV.isPtr, Bool.false_eq_true] at hv
  case ptr b o p =>
    have h' : GR g (.ptr b o p) [a] := h
    obtain ⟨_, _, _, _, _, _, e5⟩ := h'
    simp only [List.cons.injEq, and_true] at e5
    exact ⟨_, e5⟩
  case rptr b i o =>
    have h' : GR g (.rptr b i o) [a] := h
    obtain ⟨_, _, _, _, _, _, _, e5⟩ := h'
    simp only [List.cons.injEq, and_true] at e5
    exact ⟨_, e5⟩
  case eptr gs =>
    have h' : GR g (.eptr gs) [a] := h
    obtain ⟨_, _, _, e5, _⟩ := h'
    simp only [List.cons.injEq, and_true] at e5
    exact ⟨_, e5⟩

theorem binV_ok (hC : CfgOK C P) {g : Gh} {w : World} {op : BinOp} {t : Nat} {x y v : AV} {e : Eff} (h : binV C op t x y = some (true, v, e)) {a b : Value} (ha : VR g x a) (hb : VR g y b) (ox oy : Operand) :
    e = .none ∧ ∃ z, (do eqGuard op t ox oy a b; binOp op t a b : Sem Value).run P w = .ok z w ∧ VR g v z := by
  have fin : ∀ {v : AV}, a ≠ .nilIface → (∀ cs, a ≠ .agg cs) → (∃ z, (binOp op t a b).run P w = .ok z w ∧ VR g v z) →
      ∃ z, (do eqGuard op t ox oy a b; binOp op t a b : Sem Value).run P w = .ok z w ∧ VR g v z := by
    rintro v h1 h2 ⟨z, h3, h4⟩
    exact ⟨z, by rw [Sem.run_bind, run_eqGuard h1 h2]; exact h3, h4⟩
  unfold binV at h
  split at h
  · rename_i k p j q
    have ha' : [a] = [Value.int k p] := ha
    have hb' : [b] = [Value.int j q] := hb
    simp only [List.cons.injEq, and_true] at ha' hb'
    subst ha'
    subst hb'
    split at h
    · obtain ⟨h1, h2⟩ := intOp_ok (w := w) (t := t) (g := g) (P := P) (j := j) (.inl (.inl rfl)) h
      exact ⟨h1, fin (by simp) (by simp) h2⟩
    · obtain ⟨h1, h2⟩ := intOp_ok (w := w) (t := t) (g := g) (P := P) (j := j) (.inl (.inr rfl)) h
      exact ⟨h1, fin (by simp) (by simp) h2⟩
    · split at h
      · rename_i hkj
        obtain ⟨h1, h2⟩ := intOp_ok (w := w) (t := t) (g := g) (P := P) (j := j) (.inr hkj) h
        exact ⟨h1, fin (by simp) (by simp) h2⟩
      · cases h
  · rename_i p q
    have ha' : [a] = [Value.string p] := ha
    have hb' : [b] = [Value.string q] := hb
    simp only [List.cons.injEq, and_true] at ha' hb'
    subst ha'
    subst hb'
    obtain ⟨h1, h2⟩ := strOp_ok (w := w) (t := t) (g := g) (P := P) h
    exact ⟨h1, fin (by simp) (by simp) h2⟩
  · rename_i p q
    have ha' : [a] = [Value.bool p] := ha
    have hb' : [b] = [Value.bool q] := hb
    simp only [List.cons.injEq, and_true] at ha' hb'
    subst ha'
    subst hb'
    split at h
    · rename_i hu
      obtain ⟨h1, h2⟩ := eqV_ok h
      exact ⟨h1, fin (by simp) (by simp) (run_binOp_eq (run_equal_bool (hC.bool _ hu) p q) h2 rfl rfl)⟩
    · cases h
  · have ha' : [a] = [Value.pointer none] := ha
    have hb' : [b] = [Value.pointer none] := hb
    simp only [List.cons.injEq, and_true] at ha' hb'
    subst ha'
    subst hb'
    split at h
    · rename_i e' hu
      obtain ⟨h1, h2⟩ := eqV_ok h
      exact ⟨h1, fin (by simp) (by simp) (run_binOp_eq (run_equal_ptr (hC.ptr _ _ hu) none) h2 rfl rfl)⟩
    · cases h
  iterate 3
    · have hb' : [b] = [Value.pointer none] := hb
      simp only [List.cons.injEq, and_true] at hb'
      subst hb'
      have ha2 := ptr_form ha rfl
      obtain ⟨ad, rfl⟩ := ha2
      split at h
      · rename_i e' hu
        obtain ⟨h1, h2⟩ := eqV_ok h
        exact ⟨h1, fin (by simp) (by simp) (run_binOp_eq (run_equal_ptr (hC.ptr _ _ hu) (some ad)) h2 rfl rfl)⟩
      · cases h
  · have ha' : [a] = [Value.slice none 0 0] := ha
    have hb' : [b] = [Value.slice none 0 0] := hb
    simp only [List.cons.injEq, and_true] at ha' hb'
    subst ha'
    subst hb'
    split at h
    · rename_i e' hu
      obtain ⟨h1, h2⟩ := eqV_ok h
      exact ⟨h1, fin (by simp) (by simp) (run_binOp_eq (run_equal_nils (hC.sl _ _ hu)) h2 rfl rfl)⟩
    · cases h
  · have hb' : [b] = [Value.slice none 0 0] := hb
    simp only [List.cons.injEq, and_true] at hb'
    subst hb'
    obtain ⟨blk, off, cap, cs', e5, _⟩ := (show GR g (.nn _ _) [a] from ha)
    simp only [List.cons.injEq, and_true] at e5
    subst e5
    split at h
    · rename_i e' hu
      obtain ⟨h1, h2⟩ := eqV_ok h
      exact ⟨h1, fin (by simp) (by simp) (run_binOp_eq (run_equal_nn (hC.sl _ _ hu) _ _ _) h2 rfl rfl)⟩
    · cases h
  · have ha' : [a] = [Value.nilFunc] := ha
    have hb' : [b] = [Value.nilFunc] := hb
    simp only [List.cons.injEq, and_true] at ha' hb'
    subst ha'
    subst hb'
    split at h
    · rename_i hu
      obtain ⟨_, _, _, hd⟩ := hC.fn _ hu
      obtain ⟨h1, h2⟩ := eqV_ok h
      exact ⟨h1, fin (by simp) (by simp) (run_binOp_eq (run_equal_nilf hd) h2 rfl rfl)⟩
    · cases h
  · have hb' : [b] = [Value.nilFunc] := hb
    simp only [List.cons.injEq, and_true] at hb'
    subst hb'
    obtain ⟨vs, e5, _⟩ := (show GR g (.fn _ _) [a] from ha)
    simp only [List.cons.injEq, and_true] at e5
    subst e5
    split at h
    · rename_i hu
      obtain ⟨_, _, _, hd⟩ := hC.fn _ hu
      obtain ⟨h1, h2⟩ := eqV_ok h
      exact ⟨h1, fin (by simp) (by simp) (run_binOp_eq (run_equal_fn hd _ _ _) h2 rfl rfl)⟩
    · cases h
  · rename_i ga gb
    split at h
    · rename_i fs hu
      split at h
      · rename_i hq
        split at h
        · rename_i c hc
          obtain ⟨xs, rfl, hx⟩ := ha
          obtain ⟨ys, rfl, hy⟩ := hb
          obtain ⟨e1, e2, e3, e4⟩ := hC.eqs t hq
          obtain ⟨fields, f1, f2⟩ := hC.st t fs hu
          rw [e1] at f1
          cases f1
          have hr : (Op.equalIn 10000 t (.agg xs) (.agg ys)).run P w = .ok c w := by
            rw [run_equalIn_agg w 9999 t xs ys e1 e2]
            exact run_eqFields hC 9998 xs ys _ 0 ga gb c e4 (by rw [f2]; exact hc) (by simpa using hx) (by simpa using hy)
          obtain ⟨rfl, h2⟩ := eqV_ok h
          refine ⟨rfl, ?_⟩
          rcases h2 with ⟨rfl, rfl⟩ | ⟨rfl, rfl⟩
          · exact ⟨.bool c, by rw [Sem.run_bind, run_eqGuard_agg w .eql t ox oy xs ys e3, Result.andThen_ok, run_eql_struct, hr]; rfl, rfl⟩
          · exact ⟨.bool (!c), by rw [Sem.run_bind, run_eqGuard_agg w .neq t ox oy xs ys e3, Result.andThen_ok, run_neq_struct, hr]; rfl, rfl⟩
        · cases h
      · cases h
    · cases h
  · cases h

theorem unV_ok {g : Gh} {w : World} {op : UnOp} {x v : AV} {c : Bool} {e : Eff} (h : unV op x = some (c, v, e)) {a : Value} (ha : VR g x a) : e = .none ∧ ∃ z, (Op.unary op a).run P w = .ok z w ∧ VR g v z := by
  unfold unV at h
  split at h
  · rename_i k n
    have ha' : [a] = [Value.int k n] := ha
    simp only [List.cons.injEq, and_true] at ha'
    subst ha'
    simp only [ok, Option.some.injEq, Prod.mk.injEq] at h
    obtain ⟨_, rfl, rfl⟩ := h
    exact ⟨rfl, _, rfl, rfl⟩
  · rename_i k n
    have ha' : [a] = [Value.int k n] := ha
    simp only [List.cons.injEq, and_true] at ha'
    subst ha'
    simp only [ok, Option.some.injEq, Prod.mk.injEq] at h
    obtain ⟨_, rfl, rfl⟩ := h
    exact ⟨rfl, _, rfl, rfl⟩
  · rename_i b
    have ha' : [a] = [Value.bool b] := ha
    simp only [List.cons.injEq, and_true] at ha'
    subst ha'
    simp only [ok, Option.some.injEq, Prod.mk.injEq] at h
    obtain ⟨_, rfl, rfl⟩ := h
    exact ⟨rfl, _, rfl, rfl⟩
  · cases h

end
end Go.V
