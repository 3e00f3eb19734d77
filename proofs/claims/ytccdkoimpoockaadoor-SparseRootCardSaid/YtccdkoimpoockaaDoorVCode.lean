/- Regions, code: the abstract run tells what the machine does. -/
import Derived.Test.YtccdkoimpoockaaDoorVWide
set_option linter.all false
set_option linter.unusedVariables false
set_option linter.unusedSectionVars false
set_option linter.unusedSimpArgs false
namespace Go.V
variable [Codes]

/-- A function that may be entered. -/
def Enterable (P : Program) (f : FuncId) : Prop := ∃ fn, P.funcs[f]? = some fn ∧ (fn.name == "runtime.NumGoroutine") = false ∧ fn.body.isNone = false

theorem run_callFunc {P : Program} {f : FuncId} (h : Enterable P f) (args : Array Value) (w : World) : (callFunc f args).run P w = .ok (.enter f args) w := by
  obtain ⟨fn, h1, h2, h3⟩ := h
  have h2' : ¬ fn.name = "runtime.NumGoroutine" := by simpa using h2
  have h3' : ¬ fn.body = none := by intro he; rw [he] at h3; simp at h3
  simp [callFunc, h1, h2', h3']

/-- A loop's summary tells what its rounds do. -/
def LoopOK (E : Env0) (d f base : Nat) (c : Code) (l : LSpec) : Prop :=
  l.ok = true ∧ ∃ step : Nat → l.head.den → Option (outDen l.outs), (∀ x o, l.fn x = some o → ∃ n, step n x = some o) ∧ (∀ x, step 0 x = none) ∧
    ∀ n x o, step (n + 1) x = some o → runB E d f base c l (step n) x = some o

structure EnvOK (P : Program) (E : Env0) : Prop where
  mixed : P.follows .mixedOrders = true
  cfg : CfgOK E.C P
  pure : ∀ f p, find E.P f = some p → PureOK P E.C f p ∧ Enterable P f
  fresh : ∀ f p, find E.R f = some p → FreshOK P E.C f p ∧ Enterable P f
  calls : ∀ f c, find E.S f = some c → CallOK P E.C f c ∧ c.ok = true ∧ Enterable P f
  func : ∀ f fn, find E.F f = some fn → P.funcs[f]? = some fn ∧ funOk fn = true
  codes : ∀ f fn c, find E.F f = some fn → fn.body = some c → ∀ id, Codes.cd f id = find (rangesOf fn.ntmps c) id
  loop : ∀ d base f fn c b l, find E.F f = some fn → fn.body = some c → b ∈ loopsOf c → findL E.L ⟨d, base, f, firstRegion b⟩ = some l → LoopOK E d f base b l

section
variable {P : Program} {E : Env0} {R : Type}

/-- A way of calling in place that tells what the machine does. -/
structure InlOK (P : Program) (E : Env0) (inl : Nat → Callee → List AV → St → (AV → St → Option R) → Option R) : Prop where
  fn : ∀ base f args s K r, inl base (.fn f) args s K = some r → Enterable P f ∧ ∀ g tm tms w (vals : Array Value), StR g s tm tms w → GlobOK E.C g.fz → VsR g args vals.toList → CallsTo P f vals g tm tms w K r
  yld : ∀ base b args s K r, inl base (.yld b) args s K = some r → ∀ g tm tms w (vals : Array Value) gb l, StR g s tm tms w → GlobOK E.C g.fz → VsR g args vals.toList → g.bx b = some gb → gb.blk = some l →
    ∃ f tmps assign body, (Instr.yield l vals).run P w = .ok (.round l f tmps assign body) w ∧ ∀ (F : Fence) (n : Nat), Wide F →
      RoundIn F n P l f tmps assign body w fun e w' => ∃ v av s' g', e = .returned v ∧ K av s' = some r ∧ VR g' av v ∧ StR g' s' tm tms w' ∧ Tr g w g' w'

theorem VsR.append {g : Gh} : ∀ {l m : List AV} {a b : List Value}, VsR g l a → VsR g m b → VsR g (l ++ m) (a ++ b)
  | [], _, [], _, _, h => h
  | _ :: _, _, _ :: _, _, ⟨h1, h2⟩, h => ⟨h1, h2.append h⟩
  | [], _, _ :: _, _, h, _ => h.elim
  | _ :: _, _, [], _, h, _ => h.elim

theorem CapsR.vsR {g : Gh} : ∀ {l : List AV} {vs : List Value}, CapsR g l vs → VsR g l vs
  | [], [], _ => trivial
  | a :: l, v :: vs, ⟨h1, h2⟩ => by
    refine ⟨?_, h2.vsR⟩
    unfold CapR at h1
    split at h1
    · obtain ⟨gb, blk, e1, e2, e3, rfl⟩ := h1
      exact ⟨gb, blk, e1, e2, e3, (fun _ h => nomatch h), rfl⟩
    · exact h1.elim
  | [], _ :: _, h => h.elim
  | _ :: _, [], h => h.elim

theorem exec1_ok (hE : EnvOK P E) {F : Fence} (hW : Wide F) {n : Nat} {inl : Nat → Callee → List AV → St → (AV → St → Option R) → Option R} (hI : InlOK P E inl) {g : Gh} {s : St} {tm : Array Value} {tms : List (Array Value)} {w : World} (hs : StR g s tm tms w) (hG : GlobOK E.C g.fz)
    {base : Nat} {o : Oper} {K : AV → St → Option R} {r : R} (h : exec1 E inl base o s K = some r) (ds : List Deferred) {next : Act → World → Prop} {Q : Exit → Act → World → Prop}
    (hn : ∀ v s' g' z w', K v s' = some r → VR g' v z → StR g' s' tm tms w' → Tr g w g' w' → next (Act.put ⟨tm, ds⟩ o.dst z) w') : o.wpIn F n P ⟨tm, ds⟩ w next Q := by
  unfold exec1 at h
  split at h
  · -- pick
    rename_i c a b hop
    refine wpIn_run hW (fun c hc => by rw [hop] at hc; cases hc) ?_
    split at h
    · rename_i t hc
      have hcv : [Act.eval ⟨tm, ds⟩ c] = [Value.bool t] := ev_ok hs hG hc ds
      simp only [List.cons.injEq, and_true] at hcv
      have hr : (execOp (Act.eval ⟨tm, ds⟩) o).run P w = .ok (.value (if t = true then Act.eval ⟨tm, ds⟩ a else Act.eval ⟨tm, ds⟩ b)) w := by
        simp only [execOp, hop, hcv]
        cases t <;> simp [asBool]
      rw [hr, Oper.uponIn_value]
      cases t
      · simp only [cond_false] at h
        split at h
        · rename_i v hv
          exact hn v s g _ w h (ev_ok hs hG hv ds) hs (Tr.refl _ _)
        · cases h
      · simp only [cond_true] at h
        split at h
        · rename_i v hv
          exact hn v s g _ w h (ev_ok hs hG hv ds) hs (Tr.refl _ _)
        · cases h
    · cases h
  · -- a call
    rename_i f args ats hop
    refine wpIn_run hW (fun c hc => by rw [hop] at hc; cases hc) ?_
    split at h
    · rename_i f' caps vs hf hvs
      obtain ⟨cv, hcv, hcaps⟩ := ev_ok hs hG hf ds
      simp only [List.cons.injEq, and_true] at hcv
      have hv := evL_ok hs hG ds hvs
      have hr : ∀ (_ : Enterable P f'), (execOp (Act.eval ⟨tm, ds⟩) o).run P w = .ok (.enter f' (args.map (Act.eval ⟨tm, ds⟩) ++ cv)) w := by
        intro he
        simp only [execOp, hop, resolve, hcv, Deferred.ofValue, Sem.run_bind, Sem.run_pure, Result.andThen_ok, invoke, Array.empty_append]
        exact run_callFunc he _ _
      have fin : Enterable P f' → CallsTo P f' (args.map (Act.eval ⟨tm, ds⟩) ++ cv) g tm tms w K r → o.uponIn F n P ⟨tm, ds⟩ next Q ((execOp (Act.eval ⟨tm, ds⟩) o).run P w) := by
        intro he hc
        rw [hr he, Oper.uponIn_enter]
        refine ⟨hW.deep n, hW.calls.2 (Calls.mono hc ?_)⟩
        rintro e w' ⟨v, av, s', g', rfl, h1, h2, h3, h4⟩
        exact hn av s' g' v w' h1 h2 h3 h4
      have hall : VsR g (vs ++ caps) (args.map (Act.eval ⟨tm, ds⟩) ++ cv).toList := by
        rw [Array.toList_append, Array.toList_map]
        exact hv.append hcaps.vsR
      split at h
      · rename_i p hp
        have hcv0 : cv = #[] := by
          obtain ⟨l⟩ := cv
          cases l with
          | nil => rfl
          | cons a l => exact hcaps.elim
        obtain ⟨h1, h2⟩ := hE.pure f' p hp
        refine fin h2 ?_
        rw [hcv0, Array.append_empty]
        exact callP_ok h1 hs hG h (by rw [Array.toList_map]; exact hv)
      · split at h
        · rename_i p hp _
          have hcv0 : cv = #[] := by
            obtain ⟨l⟩ := cv
            cases l with
            | nil => rfl
            | cons a l => exact hcaps.elim
          obtain ⟨h1, h2⟩ := hE.fresh f' p hp
          refine fin h2 ?_
          rw [hcv0, Array.append_empty]
          exact callR_ok h1 hs hG h (by rw [Array.toList_map]; exact hv)
        · split at h
          · rename_i c hc
            obtain ⟨h1, h2, h3⟩ := hE.calls f' c hc
            exact fin h3 (callS_ok h1 h2 hs hG h hall)
          · obtain ⟨h1, h2⟩ := hI.fn _ _ _ _ _ _ h
            exact fin h1 (h2 g tm tms w _ hs hG hall)
    · -- a loop over a function hands a value down
      rename_i b vs hf hvs
      obtain ⟨gb, l, e1, e2, e3, e4⟩ := ev_ok hs hG hf ds
      simp only [List.cons.injEq, and_true] at e4
      have hv := evL_ok hs hG ds hvs
      obtain ⟨f2, tmps, assign, body, hy, hround⟩ := hI.yld _ _ _ _ _ _ h g tm tms w (args.map (Act.eval ⟨tm, ds⟩)) gb l hs hG (by rw [Array.toList_map]; exact hv) e1 e3
      have hr : (execOp (Act.eval ⟨tm, ds⟩) o).run P w = .ok (.round l f2 tmps assign body) w := by
        simp only [execOp, hop, resolve, e4, Deferred.ofValue, Sem.run_bind, Sem.run_pure, Result.andThen_ok, invoke, Array.empty_append, Array.append_empty]
        exact hy
      rw [hr, Oper.uponIn_round]
      refine ⟨hW.deep n, (hround F (n - 1) hW).mono ?_⟩
      rintro e w' ⟨v, av, s', g', rfl, h1, h2, h3, h4⟩
      exact hn av s' g' v w' h1 h2 h3 h4
    · cases h
  · -- any other
    split at h
    · rename_i c v e hx
      refine wpIn_run hW (execA_noDefer hx) ?_
      cases c with
      | false => simp at h
      | true =>
        simp only [cond_true] at h
        obtain ⟨n, w', g', h1, h2, h3, h4⟩ := execA_ok hE.cfg hs hG hx ds
        rw [h1]
        rcases h2 with ⟨z, rfl, h2⟩ | ⟨rfl, h2⟩
        · rw [Oper.uponIn_value]
          exact hn v _ g' z w' h h2 h3 h4
        · rw [Oper.uponIn_skip]
          exact hn v _ g' undef w' h h2 h3 h4
    · cases h

theorem slot_bool {g : Gh} {tm : Array Value} {d : Nat} {b : Bool} (h : VR g (.val .bool b) (tm.getD d undef)) : tm[d]? = some (.bool b) := by
  have h' : [tm.getD d undef] = [Value.bool b] := h
  simp only [List.cons.injEq, and_true] at h'
  rw [Array.getD_eq_getD_getElem?] at h'
  cases ht : tm[d]? with
  | none => rw [ht] at h'; cases h'
  | some v => rw [ht] at h'; simp only [Option.getD_some] at h'; rw [h']

theorem slot_skip {g : Gh} {tm : Array Value} {d : Nat} (h : VR g (.tup []) (tm.getD d undef)) : tm[d]? = none ∨ tm[d]? = some (.tuple #[]) := by
  obtain ⟨arr, h1, h2⟩ := h
  obtain ⟨l⟩ := arr
  cases l with
  | cons a l => exact h2.elim
  | nil =>
    rw [Array.getD_eq_getD_getElem?] at h1
    cases ht : tm[d]? with
    | none => exact .inl rfl
    | some v => rw [ht] at h1; simp only [Option.getD_some] at h1; rw [h1]; exact .inr rfl

theorem skipR (g : Gh) : VR g (.tup []) undef := ⟨#[], rfl, trivial⟩

theorem dstOk_lt {n : Nat} {o : Oper} (h : dstOk n o = true) : ∀ d, o.dst = some d → d < n := by
  intro d hd
  unfold dstOk at h
  rw [hd] at h
  exact Nat.le_of_ble_eq_true h

theorem runOps_ok (hE : EnvOK P E) {F : Fence} (hW : Wide F) {N : Nat} {inl : Nat → Callee → List AV → St → (AV → St → Option R) → Option R} (hI : InlOK P E inl) {base : Nat} {ops : Array Oper} {ds : List Deferred} {n : Nat} {tms : List (Array Value)} {Q : Exit → Act → World → Prop} {K : St → Option R} {r : R} :
    ∀ (rest : List Oper) (k : Nat), ops.toList.drop k = rest → rest.all (dstOk n) = true → ∀ {g : Gh} {s : St} {tm : Array Value} {w : World}, runOps E inl base ops rest s K = some r → StR g s tm tms w → GlobOK E.C g.fz → tm.size = n →
      (∀ s' tm' g' w', K s' = some r → StR g' s' tm' tms w' → Tr g w g' w' → tm'.size = n → Q .normal ⟨tm', ds⟩ w') → wpOpsIn F N P ops Q (List.range' k rest.length) ⟨tm, ds⟩ w
  | [], k, _, _, g, s, tm, w, h, hs, _, hn, hQ => hQ s tm g w h hs (Tr.refl _ _) hn
  | o :: rest, k, hd, hall, g, s, tm, w, h, hs, hG, hn, hQ => by
    simp only [List.all_cons, Bool.and_eq_true] at hall
    have hlt := dstOk_lt hall.1
    have hok : ops[k]? = some o := by
      have : ops.toList[k]? = some o := by
        have := congrArg (fun l => l[0]?) hd
        simpa using this
      rw [← Array.getElem?_toList]; exact this
    have hd' : ops.toList.drop (k + 1) = rest := by
      rw [← List.drop_drop, hd]; rfl
    have go : ∀ {g1 : Gh} {s1 : St} {tm1 : Array Value} {w1 : World}, runOps E inl base ops rest s1 K = some r → StR g1 s1 tm1 tms w1 → Tr g w g1 w1 → tm1.size = n → wpOpsIn F N P ops Q (List.range' (k + 1) rest.length) ⟨tm1, ds⟩ w1 := by
      intro g1 s1 tm1 w1 h1 hs1 ht1 hn1
      exact runOps_ok hE hW hI rest (k + 1) hd' hall.2 h1 hs1 (hG.mono ht1.fz) hn1 (fun s' tm' g' w' a b c d => hQ s' tm' g' w' a b (ht1.trans c) d)
    have run : ∀ {s1 : St}, StR g s1 tm tms w → exec1 E inl base o s1 (fun v s => runOps E inl base ops rest { s with env := putE o.dst v s.env } K) = some r → o.wpIn F N P ⟨tm, ds⟩ w (wpOpsIn F N P ops Q (List.range' (k + 1) rest.length)) Q := by
      intro s1 hs1 h1
      refine exec1_ok hE hW hI hs1 hG h1 ds (fun v s' g' z w' a b c d => ?_)
      rw [put_defers]
      exact go a (c.put (fun d hd => by rw [hn]; exact hlt d hd) b ds) d (by rw [put_size]; exact hn)
    have skip : ∀ {s1 : St}, StR g s1 tm tms w → runOps E inl base ops rest { s1 with env := putE o.dst (.tup []) s1.env } K = some r → wpOpsIn F N P ops Q (List.range' (k + 1) rest.length) (Act.put ⟨tm, ds⟩ o.dst undef) w := by
      intro s1 hs1 h1
      rw [put_defers]
      exact go h1 (hs1.put (fun d hd => by rw [hn]; exact hlt d hd) (skipR g) ds) (Tr.refl _ _) (by rw [put_size]; exact hn)
    simp only [List.length_cons, List.range'_succ, wpOpsIn, hok]
    simp only [runOps] at h
    split at h
    · rename_i hg
      have hw : Region.wanted o (yielded ops tm) = true := by simp [Region.wanted, hg]
      rw [if_pos hw]
      exact run hs h
    · rename_i j want hg
      split at h
      · rename_i d hj
        have hw : Region.wanted o (yielded ops tm) = (yielded ops tm j == some want) := by simp [Region.wanted, hg]
        have hy : yielded ops tm j = match tm[d]? with | some (.bool b) => some b | _ => none := by unfold yielded; rw [hj]; rfl
        split at h
        · rename_i b hb
          have hv := hs.env d _ hb
          have hy' : yielded ops tm j = some b := by rw [hy, slot_bool hv]
          rw [hw, hy']
          cases b <;> cases want <;> simp only [cond_true, cond_false] at h
          · rw [if_pos (by decide)]; exact run (hs.again hv) h
          · rw [if_neg (by decide)]; exact ⟨fun f _ => hW.fn f, skip (hs.again hv) h⟩
          · rw [if_neg (by decide)]; exact ⟨fun f _ => hW.fn f, skip (hs.again hv) h⟩
          · rw [if_pos (by decide)]; exact run (hs.again hv) h
        · rename_i hb
          have hv := hs.env d _ hb
          have hy' : yielded ops tm j = none := by
            rw [hy]
            rcases slot_skip hv with h | h <;> rw [h]
          rw [hw, hy', if_neg (by cases want <;> decide)]
          exact ⟨fun f _ => hW.fn f, skip hs h⟩
        · cases h
      · cases h

end
end Go.V
