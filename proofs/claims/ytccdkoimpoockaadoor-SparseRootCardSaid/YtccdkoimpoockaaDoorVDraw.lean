/- Regions whose order is drawn. -/
import Derived.Test.YtccdkoimpoockaaDoorVCode
set_option linter.all false
set_option linter.unusedVariables false
set_option linter.unusedSectionVars false
set_option linter.unusedSimpArgs false
namespace Go.V
variable [Codes]

/-! ### Masks -/
theorem testBit_maskOf (acc : List Nat) (t : Nat) : ∀ (l : List Nat) (m : Nat), Nat.testBit (l.foldl (fun m j => m ||| (1 <<< j) ||| acc.getD j 0) m) t = true → Nat.testBit m t = true ∨ ∃ j ∈ l, j = t ∨ Nat.testBit (acc.getD j 0) t = true
  | [], m, h => .inl h
  | j :: l, m, h => by
    simp only [List.foldl_cons] at h
    rcases testBit_maskOf acc t l _ h with h | ⟨k, hk, h⟩
    · rw [Nat.testBit_or, Nat.testBit_or, Bool.or_eq_true, Bool.or_eq_true] at h
      rcases h with (h | h) | h
      · exact .inl h
      · rw [Nat.one_shiftLeft, Nat.testBit_two_pow] at h
        exact .inr ⟨j, by simp, .inl (of_decide_eq_true h)⟩
      · exact .inr ⟨j, by simp, .inr h⟩
    · exact .inr ⟨k, by simp [hk], h⟩

theorem masks_get : ∀ (l : List Oper) (acc : List Nat), (masks l acc).length = acc.length + l.length ∧ (∀ k, k < acc.length → (masks l acc).getD k 0 = acc.getD k 0) ∧
    ∀ k o, l[k]? = some o → ∃ pre, pre.length = acc.length + k ∧ (∀ j, j < acc.length + k → pre.getD j 0 = (masks l acc).getD j 0) ∧ (masks l acc).getD (acc.length + k) 0 = maskOf pre (deps o)
  | [], acc => ⟨rfl, fun _ _ => rfl, fun k o h => by simp at h⟩
  | x :: l, acc => by
    obtain ⟨h1, h2, h3⟩ := masks_get l (acc ++ [maskOf acc (deps x)])
    have e : masks (x :: l) acc = masks l (acc ++ [maskOf acc (deps x)]) := rfl
    rw [e]
    have hold : ∀ k, k < acc.length → (acc ++ [maskOf acc (deps x)]).getD k 0 = acc.getD k 0 := fun k hk => by
      simp only [List.getD, List.getElem?_append_left hk]
    refine ⟨by rw [h1]; simp; omega, fun k hk => by rw [h2 k (by simp; omega), hold k hk], fun k o ho => ?_⟩
    cases k with
    | zero =>
      simp only [List.getElem?_cons_zero, Option.some.injEq] at ho
      subst ho
      refine ⟨acc, rfl, fun j hj => ?_, ?_⟩
      · rw [h2 j (by simp; omega), hold j (by omega)]
      · rw [Nat.add_zero, h2 acc.length (by simp)]
        simp [List.getD]
    | succ k =>
      obtain ⟨pre, p1, p2, p3⟩ := h3 k o (by simpa using ho)
      have el : (acc ++ [maskOf acc (deps x)]).length + k = acc.length + (k + 1) := by simp; omega
      rw [el] at p1 p2 p3
      exact ⟨pre, p1, p2, p3⟩

theorem exists_least' {p : Nat → Prop} (h : ∃ n, p n) : ∃ n, p n ∧ ∀ m, p m → n ≤ m := by
  obtain ⟨n, hn⟩ := h
  induction n using Nat.strongRecOn with
  | _ n ih =>
    by_cases hm : ∃ m, m < n ∧ p m
    · obtain ⟨m, hlt, hp⟩ := hm
      exact ih m hlt hp
    · exact ⟨n, hn, fun m hp => Nat.le_of_not_lt fun hlt => hm ⟨m, hlt, hp⟩⟩

section
variable {P : Program} {E : Env0} {R : Type}

/-- What the check of a region tells. -/
structure DrawOK (ops : Array Oper) : Prop where
  deps : ∀ i x, ops[i]? = some x → ∀ j ∈ deps x, j < i
  pair : ∀ i x j y, ops[i]? = some x → ops[j]? = some y → i < j → pairOk ops (masks ops.toList []) i x j y = true

theorem pairsOk_get {ops : Array Oper} {ms : List Nat} {i : Nat} {x : Oper} : ∀ {l : List Oper} {j : Nat}, pairsOk ops ms i x j l = true → ∀ k y, l[k]? = some y → pairOk ops ms i x (j + k) y = true
  | [], _, _, k, y, h => by simp at h
  | z :: l, j, h, k, y, hy => by
    simp only [pairsOk, Bool.and_eq_true] at h
    cases k with
    | zero => simp only [List.getElem?_cons_zero, Option.some.injEq] at hy; subst hy; exact h.1
    | succ k =>
      have := pairsOk_get h.2 k y (by simpa using hy)
      rwa [show j + (k + 1) = j + 1 + k by omega]

theorem allOk_get {ops : Array Oper} {ms : List Nat} : ∀ {l : List Oper} {i : Nat}, allOk ops ms i l = true → ∀ k x, l[k]? = some x →
    (∀ j ∈ V.deps x, j < i + k) ∧ ∀ m y, k < m → l[m]? = some y → pairOk ops ms (i + k) x (i + m) y = true
  | [], _, _, k, x, h => by simp at h
  | z :: l, i, h, k, x, hx => by
    simp only [allOk, Bool.and_eq_true] at h
    cases k with
    | zero =>
      simp only [List.getElem?_cons_zero, Option.some.injEq] at hx
      subst hx
      refine ⟨fun j hj => Nat.le_of_ble_eq_true (List.all_eq_true.1 h.1.1 j hj), fun m y hm hy => ?_⟩
      cases m with
      | zero => omega
      | succ m =>
        have := pairsOk_get h.1.2 m y (by simpa using hy)
        rwa [show i + (m + 1) = i + 1 + m by omega]
    | succ k =>
      obtain ⟨h1, h2⟩ := allOk_get h.2 k x (by simpa using hx)
      refine ⟨fun j hj => by have := h1 j hj; omega, fun m y hm hy => ?_⟩
      cases m with
      | zero => omega
      | succ m =>
        have := h2 m y (by omega) (by simpa using hy)
        rwa [show i + (k + 1) = i + 1 + k by omega, show i + (m + 1) = i + 1 + m by omega]

theorem drawOk_ok {ops : Array Oper} (h : drawOk ops = true) : DrawOK ops where
  deps := fun i x hx => by
    have := (allOk_get h i x (by rw [Array.getElem?_toList]; exact hx)).1
    rwa [Nat.zero_add] at this
  pair := fun i x j y hx hy hij => by
    have := (allOk_get h i x (by rw [Array.getElem?_toList]; exact hx)).2 j y hij (by rw [Array.getElem?_toList]; exact hy)
    rwa [Nat.zero_add, Nat.zero_add] at this

/-- What is ahead of an operation has been done when all that it waits for has been done. -/
theorem ahead_done {ops : Array Oper} (hD : DrawOK ops) {S : Nat → Prop} (hS : ∀ k o, ops[k]? = some o → S k → ∀ j ∈ deps o, S j) : ∀ (n j : Nat), j ≤ n → ∀ o, ops[j]? = some o → (∀ d ∈ deps o, S d) → ∀ i, ahead (masks ops.toList []) i j = true → S i := by
  intro n
  induction n with
  | zero =>
    intro j hj o ho hd i ha
    have : j = 0 := by omega
    subst this
    obtain ⟨_, _, h3⟩ := masks_get ops.toList []
    obtain ⟨pre, p1, p2, p3⟩ := h3 0 o (by rw [Array.getElem?_toList]; exact ho)
    simp only [List.length_nil, Nat.add_zero] at p3
    unfold ahead at ha
    rw [p3] at ha
    rcases testBit_maskOf pre i _ 0 ha with h | ⟨d, h1, h2⟩
    · simp at h
    · have := hD.deps 0 o ho d h1
      omega
  | succ n ih =>
    intro j hj o ho hd i ha
    obtain ⟨_, _, h3⟩ := masks_get ops.toList []
    obtain ⟨pre, p1, p2, p3⟩ := h3 j o (by rw [Array.getElem?_toList]; exact ho)
    simp only [List.length_nil, Nat.zero_add] at p2 p3
    unfold ahead at ha
    rw [p3] at ha
    rcases testBit_maskOf pre i _ 0 ha with h | ⟨d, h1, h2⟩
    · simp at h
    · have hlt := hD.deps j o ho d h1
      have hSd := hd d h1
      rcases h2 with rfl | h2
      · exact hSd
      · rw [p2 d hlt] at h2
        have hj' : j < ops.size := (Array.getElem?_eq_some_iff.1 ho).1
        have hod : ops[d]? = some ops[d] := Array.getElem?_eq_getElem (by omega)
        exact ih d (by omega) _ hod (hS d _ hod hSd) i h2

/-! ### One operation that leaves the boxes alone -/
theorem restr_find : ∀ {l : List Nat} {env : Env} {t : Nat} {v : AV}, find (restr env l) t = some v → t ∈ l ∧ find env t = some v
  | [], _, _, _, h => nomatch h
  | u :: l, env, t, v, h => by
    simp only [restr] at h
    split at h
    · rename_i x hx
      by_cases hu : u = t
      · subst hu
        rw [find_cons_same] at h
        cases h
        exact ⟨by simp, hx⟩
      · rw [find_cons_other _ _ hu] at h
        obtain ⟨h1, h2⟩ := restr_find h
        exact ⟨by simp [h1], h2⟩
    · obtain ⟨h1, h2⟩ := restr_find h
      exact ⟨by simp [h1], h2⟩

theorem find_restr : ∀ {l : List Nat} {env : Env} {t : Nat} {v : AV}, t ∈ l → find env t = some v → find (restr env l) t = some v
  | u :: l, env, t, v, hm, h => by
    simp only [restr]
    by_cases hu : u = t
    · subst hu
      simp only [h, find_cons_same]
    · have hm' : t ∈ l := (List.mem_cons.1 hm).resolve_left (Ne.symm hu)
      split
      · rw [find_cons_other _ _ hu]; exact find_restr hm' h
      · exact find_restr hm' h

def argsV (bx : Bxs) : (l : List Ty) → List AV → Option (tysDen l)
  | [], [] => some ()
  | T :: l, v :: vs => match norm bx T v with
    | some x => match argsV bx l vs with
      | some y => some (x, y)
      | none => none
    | none => none
  | _, _ => none

theorem argsK_eq {bx : Bxs} {R : Type} : ∀ {l : List Ty} {vs : List AV} {K : tysDen l → Option R}, argsK bx l vs K = (argsV bx l vs).bind K
  | [], [], K => rfl
  | [], _ :: _, K => rfl
  | _ :: _, [], K => rfl
  | T :: l, v :: vs, K => by
    simp only [argsK, argsV]
    cases hn : norm bx T v with
    | none => simp
    | some x =>
      simp only
      rw [argsK_eq]
      cases argsV bx l vs <;> rfl

/-- What an operation yields, told once for every world. -/
def Yield (P : Program) (E : Env0) (o : Oper) (env : Env) (bxs : Bxs) (v : AV) : Prop :=
  ∀ {F : Fence} {N : Nat}, Wide F → ∀ {g : Gh} {stk : List Env} {tm : Array Value} {tms : List (Array Value)} {w : World}, StR g ⟨env, stk, bxs⟩ tm tms w → GlobOK E.C g.fz → ∀ (ds : List Deferred) {next : Act → World → Prop} {Q : Exit → Act → World → Prop},
    (∀ g' z w', VR g' v z → StR g' ⟨env, stk, bxs⟩ tm tms w' → Tr g w g' w' → next (Act.put ⟨tm, ds⟩ o.dst z) w') → o.wpIn F N P ⟨tm, ds⟩ w next Q

theorem exec0_ok (hE : EnvOK P E) {base : Nat} {o : Oper} {s : St} {K : AV → Option R} {r : R} (h : exec0 E base o s K = some r) : ∃ v, K v = some r ∧ Yield P E o s.env s.bxs v := by
  unfold exec0 at h
  split at h
  · rename_i c a b hop
    split at h
    · rename_i t hc
      have fin : ∀ v, ev E.C s.env (if t = true then a else b) = some v → Yield P E o s.env s.bxs v := by
        intro v hv F N hW g stk tm tms w hs hG ds next Q hn
        have hcv : [Act.eval ⟨tm, ds⟩ c] = [Value.bool t] := ev_ok hs hG hc ds
        simp only [List.cons.injEq, and_true] at hcv
        have hr : (execOp (Act.eval ⟨tm, ds⟩) o).run P w = .ok (.value (Act.eval ⟨tm, ds⟩ (if t = true then a else b))) w := by
          simp only [execOp, hop, hcv]
          cases t <;> simp [asBool]
        refine wpIn_run hW (fun c hc => by rw [hop] at hc; cases hc) ?_
        rw [hr, Oper.uponIn_value]
        exact hn g _ w (ev_ok hs hG hv ds) hs (Tr.refl _ _)
      cases t
      · simp only [cond_false] at h
        split at h
        · rename_i v hv; exact ⟨v, h, fin v hv⟩
        · cases h
      · simp only [cond_true] at h
        split at h
        · rename_i v hv; exact ⟨v, h, fin v hv⟩
        · cases h
    · cases h
  · rename_i f args ats hop
    split at h
    · rename_i f' vs hf hvs
      split at h
      · rename_i p hp
        rw [argsK_eq, Option.bind_eq_some_iff] at h
        obtain ⟨x, hx, h⟩ := h
        rw [Option.bind_eq_some_iff] at h
        obtain ⟨y, hy, hK⟩ := h
        refine ⟨_, hK, ?_⟩
        intro F N hW g stk tm tms w hs hG ds next Q hn
        obtain ⟨cv, hcv, hcaps⟩ := ev_ok hs hG hf ds
        simp only [List.cons.injEq, and_true] at hcv
        have hv := evL_ok hs hG ds hvs
        have hcv0 : cv = #[] := by
          obtain ⟨l⟩ := cv
          cases l with
          | nil => rfl
          | cons a l => exact hcaps.elim
        obtain ⟨h1, h2⟩ := hE.pure f' p hp
        have hr : (execOp (Act.eval ⟨tm, ds⟩) o).run P w = .ok (.enter f' (args.map (Act.eval ⟨tm, ds⟩))) w := by
          simp only [execOp, hop, resolve, hcv, hcv0, Deferred.ofValue, Sem.run_bind, Sem.run_pure, Result.andThen_ok, invoke, Array.empty_append, Array.append_empty]
          exact run_callFunc h2 _ _
        refine wpIn_run hW (fun c hc => by rw [hop] at hc; cases hc) ?_
        rw [hr, Oper.uponIn_enter]
        refine ⟨hW.deep N, hW.calls.2 ?_⟩
        have hvm : ∀ {l : List AV} {cs : List Value} {g' : Gh}, ExtBut none g g' → VsR g l cs → VsR g' l cs := by
          intro l
          induction l with
          | nil => intro cs g' _ h; cases cs <;> exact h
          | cons v l ih =>
            intro cs g' hx h
            cases cs with
            | nil => exact h.elim
            | cons c cs => exact ⟨h.1.grow hx, ih hx h.2⟩
        have harg : ∀ {g' : Gh} {bx : Bxs}, BxR g' bx w → FzOK g' w → ExtBut none g g' → argsV bx p.args vs = some x → TVs g'.fz p.args x (args.map (Act.eval ⟨tm, ds⟩)).toList := by
          intro g' bx hb hf he hx
          obtain ⟨x', e1, e2⟩ := argsK_ok (K := some) (r := x) hb.w hf (cs := (args.map (Act.eval ⟨tm, ds⟩)).toList) (by rw [argsK_eq, hx]; rfl) (hvm he (by rw [Array.toList_map]; exact hv))
          cases e1
          exact e2
        cases hsc : p.res.all scalar with
        | true =>
          rw [hsc, cond_true] at hx
          obtain ⟨fz1, k1, t1⟩ := StR.frzKeys s.bxs hs
          have hxt : ExtBut none g ⟨fz1, g.bx⟩ := ⟨t1.fz, fun _ _ _ h => h, fun _ _ h _ => nomatch h⟩
          refine Calls.mono (h1 fz1 w _ x y (hG.mono t1.fz) k1.fz (harg k1.bxs k1.fz hxt hx) hy) ?_
          rintro e w' ⟨cs, fz2, rfl, h4, h5, t2⟩
          have hw : ∀ b, b < w.heap.size → w'.heap[b]? = w.heap[b]? := fun b hb => t2.block b hb (not_owned _ _)
          exact hn g _ w' (TVs.scalar (fz' := g.fz) hsc h4).res (hs.grow hw) ⟨t2.os, t2.tape, t2.output, t2.size, fun _ _ _ h => h, fun _ _ h => .inl h, fun _ h => .inl h, fun b hb _ => hw b hb⟩
        | false =>
          rw [hsc, cond_false] at hx
          refine Calls.mono (h1 g.fz w _ x y hG hs.fz (harg hs.bxs hs.fz (ExtBut.refl g) hx) hy) ?_
          rintro e w' ⟨cs, fz2, rfl, h4, h5, t2⟩
          have hw : ∀ b, b < w.heap.size → w'.heap[b]? = w.heap[b]? := fun b hb => t2.block b hb (not_owned _ _)
          obtain ⟨h6, t3⟩ := hs.ghost (fz' := fz2) t2.fz (fun b o e => by
            rcases t2.fzNew b o e with h | h | h
            · exact .inl h
            · exact .inr h
            · exact (not_owned _ _ h).elim) h5 t2.os t2.tape t2.output t2.size hw
          exact hn ⟨fz2, g.bx⟩ _ w' h4.res h6 t3
      · cases h
    · cases h
  · split at h
    · rename_i c v hx
      cases c with
      | false => simp at h
      | true =>
        simp only [cond_true] at h
        refine ⟨v, h, ?_⟩
        intro F N hW g stk tm tms w hs hG ds next Q hn
        have hx' : execA E.C base o ⟨s.env, stk, s.bxs⟩ = some (true, v, .none) := hx
        obtain ⟨n, w', g', h1, h2, h3, h4⟩ := execA_ok hE.cfg hs hG hx' ds
        refine wpIn_run hW (execA_noDefer hx) ?_
        rw [h1]
        rcases h2 with ⟨z, rfl, h2⟩ | ⟨rfl, h2⟩
        · rw [Oper.uponIn_value]
          exact hn g' z w' h2 h3 h4
        · rw [Oper.uponIn_skip]
          exact hn g' undef w' h2 h3 h4
    · cases h

/-- The same of an operation with its guard. -/
def GYield (P : Program) (E : Env0) (ops : Array Oper) (o : Oper) (env : Env) (bxs : Bxs) (v : AV) : Prop :=
  ∀ {F : Fence} {N : Nat}, Wide F → ∀ {g : Gh} {stk : List Env} {tm : Array Value} {tms : List (Array Value)} {w : World}, StR g ⟨env, stk, bxs⟩ tm tms w → GlobOK E.C g.fz → ∀ (ds : List Deferred) {i : Nat} (_ : ops[i]? = some o) {next : Act → World → Prop} {Q : Exit → Act → World → Prop},
    (∀ g' z w', VR g' v z → StR g' ⟨env, stk, bxs⟩ tm tms w' → Tr g w g' w' → next (Act.put ⟨tm, ds⟩ o.dst z) w') → wpOpIn F N P ops Q i next ⟨tm, ds⟩ w

theorem execG_ok (hE : EnvOK P E) {base : Nat} {ops : Array Oper} {o : Oper} {s : St} {K : AV → St → Option R} {r : R} (h : execG E base ops o s K = some r) :
    ∃ v s1, K v s1 = some r ∧ s1.stk = s.stk ∧ s1.bxs = s.bxs ∧ (∀ t, find s1.env t = find s.env t) ∧ GYield P E ops o (restr s.env (looks ops o)) s.bxs v := by
  -- wanted
  have run : ∀ {K0 : AV → Option R}, (∀ (tm : Array Value) (g : Gh), EnvR g (restr s.env (looks ops o)) tm → Region.wanted o (yielded ops tm) = true) →
      exec0 E base o { s with env := restr s.env (looks ops o) } K0 = some r → ∃ v, K0 v = some r ∧ GYield P E ops o (restr s.env (looks ops o)) s.bxs v := by
    intro K0 hw h
    obtain ⟨v, h1, h2⟩ := exec0_ok hE h
    refine ⟨v, h1, fun hW g stk tm tms w hs hG ds i hi next Q hn => ?_⟩
    unfold wpOpIn
    rw [hi]
    simp only
    rw [if_pos (hw _ _ hs.env)]
    exact h2 hW hs hG ds hn
  have skip : (∀ (tm : Array Value) (g : Gh), EnvR g (restr s.env (looks ops o)) tm → Region.wanted o (yielded ops tm) = false) → GYield P E ops o (restr s.env (looks ops o)) s.bxs (.tup []) := by
    intro hw F N hW g stk tm tms w hs hG ds i hi next Q hn
    unfold wpOpIn
    rw [hi]
    simp only
    rw [if_neg (by rw [hw _ _ hs.env]; decide)]
    exact ⟨fun f _ => hW.fn f, hn g undef w (skipR g) hs (Tr.refl _ _)⟩
  unfold execG at h
  split at h
  · rename_i hg
    obtain ⟨v, h1, h2⟩ := run (fun tm g he => by simp [Region.wanted, hg]) h
    exact ⟨v, s, h1, rfl, rfl, fun _ => rfl, h2⟩
  · rename_i j want hg
    split at h
    · rename_i d hj
      have hd : d ∈ looks ops o := by
        unfold looks
        rw [hg]
        simp only [hj, Option.toList_some]
        exact List.mem_append_right _ (by simp)
      have hwd : ∀ tm : Array Value, Region.wanted o (yielded ops tm) = (yielded ops tm j == some want) := fun tm => by simp [Region.wanted, hg]
      have hy : ∀ tm : Array Value, yielded ops tm j = match tm[d]? with | some (.bool b) => some b | _ => none := fun tm => by unfold yielded; rw [hj]; rfl
      have same : ∀ {v : AV}, find s.env d = some v → ∀ t, find ((d, v) :: s.env) t = find s.env t := by
        intro v hv t
        by_cases ht : d = t
        · subst ht; rw [find_cons_same, hv]
        · rw [find_cons_other _ _ ht]
      split at h
      · rename_i b hb
        have hw : ∀ (tm : Array Value) (g : Gh), EnvR g (restr s.env (looks ops o)) tm → Region.wanted o (yielded ops tm) = (b == want) := by
          intro tm g he
          have hv := he d _ (find_restr hd hb)
          rw [hwd, hy, slot_bool hv]
          cases b <;> cases want <;> rfl
        cases b <;> cases want <;> simp only [cond_true, cond_false] at h
        · obtain ⟨v, h1, h2⟩ := run (fun tm g he => by rw [hw tm g he]; rfl) h
          exact ⟨v, _, h1, rfl, rfl, same hb, h2⟩
        · exact ⟨_, _, h, rfl, rfl, same hb, skip (fun tm g he => by rw [hw tm g he]; rfl)⟩
        · exact ⟨_, _, h, rfl, rfl, same hb, skip (fun tm g he => by rw [hw tm g he]; rfl)⟩
        · obtain ⟨v, h1, h2⟩ := run (fun tm g he => by rw [hw tm g he]; rfl) h
          exact ⟨v, _, h1, rfl, rfl, same hb, h2⟩
      · rename_i hb
        refine ⟨_, _, h, rfl, rfl, fun _ => rfl, skip (fun tm g he => ?_)⟩
        have hv := he d _ (find_restr hd hb)
        rw [hwd, hy]
        rcases slot_skip hv with h | h <;> rw [h] <;> cases want <;> rfl
      · cases h
    · cases h

/-! ### What lies between two operations that change the boxes -/
/-- The slot that an operation writes. -/
def dstAt (ops : Array Oper) (j : Nat) : Option Nat := (ops[j]?).bind (·.dst)

/-- The slots, when of a stretch of operations these are done. -/
structure EnvAt (ops : Array Oper) (i m : Nat) (vs : Nat → AV) (e0 e1 : Env) (T : Nat → Prop) : Prop where
  done : ∀ j d, i ≤ j → j < m → T j → dstAt ops j = some d → find e1 d = some (vs j)
  old : ∀ t, (∀ j, i ≤ j → j < m → T j → dstAt ops j ≠ some t) → find e1 t = find e0 t

structure Seg (P : Program) (E : Env0) (ops : Array Oper) (i m : Nat) (s0 s1 : St) (vs : Nat → AV) : Prop where
  le : i ≤ m
  stk : s1.stk = s0.stk
  bxs : s1.bxs = s0.bxs
  env : EnvAt ops i m vs s0.env s1.env fun _ => True
  op : ∀ j, i ≤ j → j < m → ∃ o e, ops[j]? = some o ∧ isWriter o = false ∧ GYield P E ops o (restr e (looks ops o)) s0.bxs (vs j) ∧ EnvAt ops i j vs s0.env e fun _ => True

theorem dst_apart {ops : Array Oper} (hD : DrawOK ops) {i j d : Nat} (h : i < j) (h1 : dstAt ops i = some d) : dstAt ops j ≠ some d := by
  intro h2
  unfold dstAt at h1 h2
  rw [Option.bind_eq_some_iff] at h1 h2
  obtain ⟨x, hx, hxd⟩ := h1
  obtain ⟨y, hy, hyd⟩ := h2
  have := hD.pair i x j y hx hy h
  unfold pairOk at this
  rw [hxd, hyd] at this
  simp only [Bool.and_eq_true, Nat.beq_refl, Bool.not_true] at this
  exact absurd this.2 (by decide)

theorem seg_of (hE : EnvOK P E) {inl : Nat → Callee → List AV → St → (AV → St → Option R) → Option R} {base : Nat} {ops : Array Oper} (hD : DrawOK ops) {K : St → Option R} {r : R} :
    ∀ (rest : List Oper) (i : Nat), ops.toList.drop i = rest → ∀ {s : St}, runDraw E inl base ops rest s K = some r →
      ∃ m s1 vs, Seg P E ops i m s s1 vs ∧ ((m = i + rest.length ∧ K s1 = some r) ∨ ∃ o, ops[m]? = some o ∧ isWriter o = true ∧ runOps E inl base ops [o] s1 (fun s => runDraw E inl base ops (ops.toList.drop (m + 1)) s K) = some r)
  | [], i, hd, s, h => by
    refine ⟨i, s, fun _ => .junk, ⟨Nat.le_refl _, rfl, rfl, ⟨fun j d h1 h2 => by omega, fun _ _ => rfl⟩, fun j h1 h2 => by omega⟩, .inl ⟨by simp, h⟩⟩
  | o :: rest, i, hd, s, h => by
    have hok : ops[i]? = some o := by
      have : ops.toList[i]? = some o := by
        have := congrArg (fun l => l[0]?) hd
        simpa using this
      rw [← Array.getElem?_toList]; exact this
    have hd' : ops.toList.drop (i + 1) = rest := by
      rw [← List.drop_drop, hd]; rfl
    simp only [runDraw] at h
    cases hw : isWriter o with
    | true =>
      rw [hw, cond_true] at h
      refine ⟨i, s, fun _ => .junk, ⟨Nat.le_refl _, rfl, rfl, ⟨fun j d h1 h2 => by omega, fun _ _ => rfl⟩, fun j h1 h2 => by omega⟩, .inr ⟨o, hok, hw, ?_⟩⟩
      rw [hd']
      exact h
    | false =>
      rw [hw, cond_false] at h
      obtain ⟨v, s1, h1, h2, h3, h4, h5⟩ := execG_ok hE h
      obtain ⟨m, s2, vs, hseg, hend⟩ := seg_of hE hD rest (i + 1) hd' h1
      -- the slots behind the first operation
      have hput : ∀ t, find (putE o.dst v s1.env) t = if o.dst = some t then some v else find s.env t := by
        intro t
        cases ho : o.dst with
        | none => simp [putE, h4]
        | some d =>
          simp only [putE, Option.some.injEq]
          by_cases ht : d = t
          · subst ht; rw [find_cons_same, if_pos rfl]
          · rw [find_cons_other _ _ ht, if_neg ht, h4]
      have hdi : dstAt ops i = o.dst := by unfold dstAt; rw [hok]; rfl
      have lift : ∀ {m : Nat} {e : Env}, EnvAt ops (i + 1) m vs (putE o.dst v s1.env) e (fun _ => True) → i + 1 ≤ m → EnvAt ops i m (fun j => if j = i then v else vs j) s.env e fun _ => True := by
        intro m e he hm
        refine ⟨fun j d h1 h2 _ hj => ?_, fun t ht => ?_⟩
        · by_cases hji : j = i
          · subst hji
            rw [if_pos rfl, he.old d (fun k hk1 hk2 _ => dst_apart hD (by omega) hj), hput, ← hdi, if_pos hj]
          · rw [if_neg hji]
            exact he.done j d (by omega) h2 trivial hj
        · rw [he.old t (fun j h1 h2 _ => ht j (by omega) h2 trivial), hput, if_neg (by rw [← hdi]; exact ht i (Nat.le_refl _) (by omega) trivial)]
      refine ⟨m, s2, fun j => if j = i then v else vs j, ⟨by have := hseg.le; omega, by rw [hseg.stk]; exact h2, by rw [hseg.bxs]; exact h3, lift hseg.env hseg.le, fun j hj1 hj2 => ?_⟩, ?_⟩
      · by_cases hji : j = i
        · subst hji
          refine ⟨o, s.env, hok, hw, ?_, ⟨fun k d h1 h2 => by omega, fun _ _ => rfl⟩⟩
          rw [if_pos rfl]
          exact h5
        · obtain ⟨o', e, e1, e2, e3, e4⟩ := hseg.op j (by omega) hj2
          refine ⟨o', e, e1, e2, ?_, lift e4 (by omega)⟩
          rw [if_neg hji, ← h3]
          exact e3
      · rcases hend with ⟨e1, e2⟩ | e
        · exact .inl ⟨by rw [e1, List.length_cons]; omega, e2⟩
        · exact .inr e

/-! ### Any order -/
/-- Which operations are done. -/
def Done (listed : Array Bool) (j : Nat) : Prop := listed.getD j false = true

theorem done_set {listed : Array Bool} {i j : Nat} (hi : i < listed.size) : Done (listed.setIfInBounds i true) j ↔ j = i ∨ Done listed j := by
  unfold Done
  rw [getD_set]
  by_cases h : i = j
  · subst h
    simp [hi]
  · simp [h, Ne.symm h]

theorem undone {listed : Array Bool} {j : Nat} (h : listed.getD j true = false) : j < listed.size ∧ ¬ Done listed j := by
  unfold Done
  simp only [Array.getD_eq_getD_getElem?] at h ⊢
  cases e : listed[j]? with
  | none => rw [e] at h; simp at h
  | some b =>
    rw [e] at h
    simp only [Option.getD_some] at h
    subst h
    refine ⟨(Array.getElem?_eq_some_iff.1 e).1, by simp⟩

theorem undone_of {listed : Array Bool} {j : Nat} (hj : j < listed.size) (h : ¬ Done listed j) : listed.getD j true = false := by
  unfold Done at h
  simp only [Array.getD_eq_getD_getElem?, Array.getElem?_eq_getElem hj, Option.getD_some] at h ⊢
  simpa using h

/-- How many are to come. -/
def left (listed : Array Bool) : Nat := listed.toList.countP (fun b => !b)

theorem countP_set {l : List Bool} {i : Nat} (h : l[i]? = some false) : (l.set i true).countP (fun b => !b) + 1 = l.countP (fun b => !b) := by
  induction l generalizing i with
  | nil => simp at h
  | cons b l ih =>
    cases i with
    | zero =>
      simp only [List.getElem?_cons_zero, Option.some.injEq] at h
      subst h
      simp
    | succ i =>
      have := ih (i := i) (by simpa using h)
      simp only [List.set_cons_succ, List.countP_cons]
      omega

theorem left_set {listed : Array Bool} {i : Nat} (h : listed.getD i true = false) : left (listed.setIfInBounds i true) + 1 = left listed := by
  unfold left
  rw [Array.toList_setIfInBounds]
  refine countP_set ?_
  obtain ⟨h1, h2⟩ := undone h
  rw [Array.getElem?_toList]
  simp only [Array.getD_eq_getD_getElem?, Array.getElem?_eq_getElem h1, Option.getD_some] at h
  rw [Array.getElem?_eq_getElem h1, h]

theorem left_zero {listed : Array Bool} (h : left listed = 0) (j : Nat) : listed.getD j true = true := by
  cases hb : listed.getD j true with
  | true => rfl
  | false => have := left_set hb; omega

/-- What is known while the operations of a region are done, in whatever order. -/
structure Mid (P : Program) (E : Env0) (inl : Nat → Callee → List AV → St → (AV → St → Option R) → Option R) (base : Nat) (ops : Array Oper) (K : St → Option R) (r : R) (tms : List (Array Value)) (listed : Array Bool) (g : Gh) (tm : Array Value) (w : World) : Prop where
  st : ∃ i s0 m s1 vs es, Seg P E ops i m s0 s1 vs ∧ m ≤ ops.size ∧ ((m = ops.size ∧ K s1 = some r) ∨ ∃ o, ops[m]? = some o ∧ isWriter o = true ∧ runOps E inl base ops [o] s1 (fun s => runDraw E inl base ops (ops.toList.drop (m + 1)) s K) = some r) ∧
    (∀ j, j < i → Done listed j) ∧ (∀ j, Done listed j → j < m) ∧ EnvAt ops i m vs s0.env es (Done listed) ∧ StR g ⟨es, s0.stk, s0.bxs⟩ tm tms w

theorem op1_ok (hE : EnvOK P E) {F : Fence} (hW : Wide F) {N : Nat} {inl : Nat → Callee → List AV → St → (AV → St → Option R) → Option R} (hI : InlOK P E inl) {base : Nat} {ops : Array Oper} {o : Oper} {j : Nat} (hoj : ops[j]? = some o) {ds : List Deferred} {n : Nat} (hall : dstOk n o = true) {tms : List (Array Value)}
    {K : St → Option R} {r : R} {g : Gh} {s : St} {tm : Array Value} {w : World} (h : runOps E inl base ops [o] s K = some r) (hs : StR g s tm tms w) (hG : GlobOK E.C g.fz) (hn : tm.size = n) {next : Act → World → Prop} {Q : Exit → Act → World → Prop}
    (hQ : ∀ s' tm' g' w', K s' = some r → StR g' s' tm' tms w' → Tr g w g' w' → tm'.size = n → next ⟨tm', ds⟩ w') : wpOpIn F N P ops Q j next ⟨tm, ds⟩ w := by
  have hlt := dstOk_lt hall
  have run : ∀ {s1 : St}, StR g s1 tm tms w → exec1 E inl base o s1 (fun v s => runOps E inl base ops [] { s with env := putE o.dst v s.env } K) = some r → o.wpIn F N P ⟨tm, ds⟩ w next Q := by
    intro s1 hs1 h1
    refine exec1_ok hE hW hI hs1 hG h1 ds (fun v s' g' z w' a b c d => ?_)
    rw [put_defers]
    exact hQ _ _ g' w' a (c.put (fun d hd => by rw [hn]; exact hlt d hd) b ds) d (by rw [put_size]; exact hn)
  have skip : ∀ {s1 : St}, StR g s1 tm tms w → runOps E inl base ops [] { s1 with env := putE o.dst (.tup []) s1.env } K = some r → next (Act.put ⟨tm, ds⟩ o.dst undef) w := by
    intro s1 hs1 h1
    rw [put_defers]
    exact hQ _ _ g w h1 (hs1.put (fun d hd => by rw [hn]; exact hlt d hd) (skipR g) ds) (Tr.refl _ _) (by rw [put_size]; exact hn)
  unfold wpOpIn
  rw [hoj]
  simp only
  rw [runOps] at h
  split at h
  · rename_i hg
    have hw : Region.wanted o (yielded ops tm) = true := by simp [Region.wanted, hg]
    rw [if_pos hw]
    exact run hs h
  · rename_i k want hg
    split at h
    · rename_i d hk
      have hw : Region.wanted o (yielded ops tm) = (yielded ops tm k == some want) := by simp [Region.wanted, hg]
      have hy : yielded ops tm k = match tm[d]? with | some (.bool b) => some b | _ => none := by unfold yielded; rw [hk]; rfl
      split at h
      · rename_i b hb
        have hv := hs.env d _ hb
        have hy' : yielded ops tm k = some b := by rw [hy, slot_bool hv]
        rw [hw, hy']
        cases b <;> cases want <;> simp only [cond_true, cond_false] at h
        · rw [if_pos (by decide)]; exact run (hs.again hv) h
        · rw [if_neg (by decide)]; exact ⟨fun f _ => hW.fn f, skip (hs.again hv) h⟩
        · rw [if_neg (by decide)]; exact ⟨fun f _ => hW.fn f, skip (hs.again hv) h⟩
        · rw [if_pos (by decide)]; exact run (hs.again hv) h
      · rename_i hb
        have hv := hs.env d _ hb
        have hy' : yielded ops tm k = none := by
          rw [hy]
          rcases slot_skip hv with h | h <;> rw [h]
        rw [hw, hy', if_neg (by cases want <;> decide)]
        exact ⟨fun f _ => hW.fn f, skip hs h⟩
      · cases h
    · cases h

theorem draw_ok (hE : EnvOK P E) {F : Fence} (hW : Wide F) {N : Nat} {inl : Nat → Callee → List AV → St → (AV → St → Option R) → Option R} (hI : InlOK P E inl) {base : Nat} {ops : Array Oper} (hD : DrawOK ops) {ds : List Deferred} {n : Nat} (hall : ops.toList.all (dstOk n) = true) {tms : List (Array Value)} {Q : Exit → Act → World → Prop} {K : St → Option R} {r : R} :
    ∀ (fuel : Nat) (listed : Array Bool), left listed = fuel → listed.size = ops.size → (∀ k o, ops[k]? = some o → Done listed k → ∀ j ∈ deps o, Done listed j) →
      ∀ {g : Gh} {tm : Array Value} {w : World}, Mid P E inl base ops K r tms listed g tm w → GlobOK E.C g.fz → tm.size = n →
      (∀ s' tm' g' w', K s' = some r → StR g' s' tm' tms w' → Tr g w g' w' → tm'.size = n → Q .normal ⟨tm', ds⟩ w') → wpAnyIn F N P .any ops Q fuel listed ⟨tm, ds⟩ w := by
  intro fuel
  induction fuel with
  | zero =>
    intro listed hl hsz hcl g tm w hM hG hn hQ
    have hdone : ∀ j, j < ops.size → Done listed j := by
      intro j hj
      have := left_zero hl j
      unfold Done
      simp only [Array.getD_eq_getD_getElem?, Array.getElem?_eq_getElem (show j < listed.size by omega), Option.getD_some] at this ⊢
      exact this
    refine ⟨?_, ?_⟩
    · cases hr : Region.ready .any ops listed with
      | nil => rfl
      | cons j l =>
        have : j ∈ Region.ready .any ops listed := by rw [hr]; simp
        have := (mem_ready.1 this).1
        rw [left_zero hl j] at this
        cases this
    · obtain ⟨i, s0, m, s1, vs, es, hseg, hm, hend, hlo, hhi, henv, hs⟩ := hM.st
      rcases hend with ⟨rfl, hK⟩ | ⟨o, ho, _, _⟩
      · refine hQ s1 tm g w hK ⟨?_, by rw [hseg.stk]; exact hs.stk, by rw [hseg.bxs]; exact hs.bxs, hs.fz⟩ (Tr.refl _ _) hn
        intro t v ht
        refine hs.env t v ?_
        by_cases hx : ∃ j, i ≤ j ∧ j < ops.size ∧ dstAt ops j = some t
        · obtain ⟨j, h1, h2, h3⟩ := hx
          rw [henv.done j t h1 h2 (hdone j h2) h3, ← hseg.env.done j t h1 h2 trivial h3, ht]
        · rw [henv.old t (fun j h1 h2 _ h3 => hx ⟨j, h1, h2, h3⟩), ← hseg.env.old t (fun j h1 h2 _ h3 => hx ⟨j, h1, h2, h3⟩), ht]
      · have hlt : m < ops.size := (Array.getElem?_eq_some_iff.1 ho).1
        exact absurd (hhi m (hdone m hlt)) (Nat.lt_irrefl _)
  | succ fuel ih =>
    intro listed hl hsz hcl g tm w hM hG hn hQ
    refine ⟨fun hr => ?_, fun j hj => ?_⟩
    · -- nothing is ready, though something is to come
      exfalso
      have hex : ∃ j, listed.getD j true = false := by
        refine Classical.byContradiction fun hno => ?_
        have hall' : ∀ b ∈ listed.toList, b = true := by
          intro b hb
          obtain ⟨j, hj, e⟩ := List.mem_iff_getElem.1 hb
          cases b with
          | true => rfl
          | false =>
            refine absurd ⟨j, ?_⟩ hno
            have hj' : j < listed.size := by simpa using hj
            simp only [Array.getD_eq_getD_getElem?, Array.getElem?_eq_getElem hj', Option.getD_some]
            simpa using e
        have : left listed = 0 := by
          unfold left
          rw [List.countP_eq_zero]
          intro b hb
          rw [hall' b hb]
          simp
        omega
      -- the least of them
      obtain ⟨j, hj, hmin⟩ := exists_least' hex
      obtain ⟨h1, h2⟩ := undone hj
      have hoj : ops[j]? = some ops[j] := Array.getElem?_eq_getElem (by omega)
      have : j ∈ Region.ready .any ops listed := mem_ready.2 ⟨hj, _, hoj, fun e he hb => by
        have hlt := hD.deps j _ hoj e.on (List.mem_map.2 ⟨e, List.mem_filter.2 ⟨by simpa using he, hb⟩, rfl⟩)
        refine Classical.byContradiction fun hno => ?_
        have := hmin e.on (undone_of (by omega) hno)
        omega⟩
      rw [hr] at this
      cases this
    · obtain ⟨hj0, o, hoj, hdep⟩ := mem_ready.1 hj
      obtain ⟨hjs, hnd⟩ := undone hj0
      have hdeps : ∀ d ∈ deps o, Done listed d := by
        intro d hd
        obtain ⟨e, he, rfl⟩ := List.mem_map.1 hd
        obtain ⟨he1, he2⟩ := List.mem_filter.1 he
        exact hdep e (by simpa using he1) he2
      have hah : ∀ k, ahead (masks ops.toList []) k j = true → Done listed k := ahead_done hD (S := Done listed) hcl j j (Nat.le_refl _) o hoj hdeps
      obtain ⟨i, s0, m, s1, vs, es, hseg, hm, hend, hlo, hhi, henv, hs⟩ := hM.st
      have hij : i ≤ j := by
        refine Classical.byContradiction fun h => hnd (hlo j (by omega))
      have hl' : left (listed.setIfInBounds j true) = fuel := by have := left_set hj0; omega
      have hcl' : ∀ k o', ops[k]? = some o' → Done (listed.setIfInBounds j true) k → ∀ d ∈ deps o', Done (listed.setIfInBounds j true) d := by
        intro k o' hk hd d hdd
        rw [done_set hjs] at hd ⊢
        rcases hd with rfl | hd
        · rw [hoj] at hk
          cases hk
          exact .inr (hdeps d hdd)
        · exact .inr (hcl k o' hk hd d hdd)
      rcases Nat.lt_trichotomy j m with hjm | hjm | hjm
      · -- of the stretch
        obtain ⟨o', e, e1, e2, e3, e4⟩ := hseg.op j hij hjm
        rw [hoj] at e1
        cases e1
        have hR : EnvR g (restr e (looks ops o)) tm := by
          intro t v ht
          obtain ⟨ht1, ht2⟩ := restr_find ht
          refine hs.env t v ?_
          by_cases hx : ∃ k, i ≤ k ∧ k < j ∧ dstAt ops k = some t
          · obtain ⟨k, h1, h2, h3⟩ := hx
            have hk : ∃ x, ops[k]? = some x ∧ x.dst = some t := by
              unfold dstAt at h3
              exact Option.bind_eq_some_iff.1 h3
            obtain ⟨x, hxk, hxt⟩ := hk
            have hp := hD.pair k x j o hxk hoj h2
            unfold pairOk at hp
            rw [hxt] at hp
            simp only [Bool.and_eq_true, Bool.or_eq_true, Bool.not_eq_true'] at hp
            have hdk : Done listed k := by
              rcases hp.1 with h | h
              · exact hah k h
              · have := h.1.2
                rw [List.contains_iff_mem.2 ht1] at this
                cases this
            rw [henv.done k t h1 (by omega) hdk h3, ← e4.done k t h1 h2 trivial h3, ht2]
          · rw [e4.old t (fun k h1 h2 _ h3 => hx ⟨k, h1, h2, h3⟩)] at ht2
            rw [henv.old t (fun k h1 h2 hdk h3 => ?_), ht2]
            -- an operation behind this one, that writes what this one looks at, waits for it
            have hk : ∃ x, ops[k]? = some x ∧ x.dst = some t := by
              unfold dstAt at h3
              exact Option.bind_eq_some_iff.1 h3
            obtain ⟨x, hxk, hxt⟩ := hk
            rcases Nat.lt_trichotomy k j with hkj | hkj | hkj
            · exact hx ⟨k, h1, hkj, h3⟩
            · subst hkj; exact hnd hdk
            · have hp := hD.pair j o k x hoj hxk hkj
              unfold pairOk at hp
              rw [hxt] at hp
              simp only [Bool.and_eq_true, Bool.or_eq_true, Bool.not_eq_true'] at hp
              rcases hp.1 with h | h
              · exact hnd (ahead_done hD (S := Done listed) hcl k k (Nat.le_refl _) x hxk (hcl k x hxk hdk) j h)
              · have := h.2
                rw [List.contains_iff_mem.2 ht1] at this
                cases this
        have hs2 : StR g ⟨restr e (looks ops o), es :: s0.stk, s0.bxs⟩ tm (tm :: tms) w := ⟨hR, ⟨hs.env, hs.stk⟩, hs.bxs, hs.fz⟩
        refine e3 hW hs2 hG ds hoj (fun g' z w' hv hs3 ht => ?_)
        rw [put_defers]
        refine ih (listed.setIfInBounds j true) hl' (by simp [hsz]) hcl' ⟨⟨i, s0, m, s1, vs, putE o.dst (vs j) es, hseg, hm, hend, fun k hk => (done_set hjs).2 (.inr (hlo k hk)), fun k hk => ?_, ⟨fun k d h1 h2 hk hd => ?_, fun t ht' => ?_⟩, ?_⟩⟩ (hG.mono ht.fz) (by rw [put_size]; exact hn) (fun s' tm' g2 w2 a b c d => hQ s' tm' g2 w2 a b (ht.trans c) d)
        · rcases (done_set hjs).1 hk with rfl | hk
          · exact hjm
          · exact hhi k hk
        · have hdj : dstAt ops j = o.dst := by unfold dstAt; rw [hoj]; rfl
          rcases (done_set hjs).1 hk with rfl | hk2
          · rw [hdj] at hd
            rw [hd]
            simp only [putE, find_cons_same]
          · have hne : o.dst ≠ some d := by
              intro hod
              rw [← hdj] at hod
              rcases Nat.lt_trichotomy k j with hkj | hkj | hkj
              · exact dst_apart hD hkj hd hod
              · subst hkj; exact hnd hk2
              · exact dst_apart hD hkj hod hd
            have : find (putE o.dst (vs j) es) d = find es d := by
              cases hod : o.dst with
              | none => rfl
              | some u => simp only [putE]; rw [find_cons_other _ _ (fun e => hne (by rw [hod, e]))]
            rw [this]
            exact henv.done k d h1 h2 hk2 hd
        · have hdj : dstAt ops j = o.dst := by unfold dstAt; rw [hoj]; rfl
          have hne : o.dst ≠ some t := by
            rw [← hdj]
            exact ht' j hij hjm ((done_set hjs).2 (.inl rfl))
          have : find (putE o.dst (vs j) es) t = find es t := by
            cases hod : o.dst with
            | none => rfl
            | some u => simp only [putE]; rw [find_cons_other _ _ (fun e => hne (by rw [hod, e]))]
          rw [this]
          exact henv.old t (fun k h1 h2 hk => ht' k h1 h2 ((done_set hjs).2 (.inr hk)))
        · have hs4 : StR g' ⟨es, s0.stk, s0.bxs⟩ tm tms w' := ⟨hs3.stk.1, hs3.stk.2, hs3.bxs, hs3.fz⟩
          exact hs4.put (fun d hd => by rw [hn]; exact dstOk_lt (List.all_eq_true.1 hall o (by simpa using Array.mem_of_getElem? hoj)) d hd) hv ds
      · -- the operation that ends the stretch
        subst hjm
        rcases hend with ⟨he, _⟩ | ⟨o', ho', hwr, hrun⟩
        · exact absurd (Array.getElem?_eq_some_iff.1 hoj).1 (by omega)
        · rw [hoj] at ho'
          cases ho'
          have hbefore : ∀ k, k < j → Done listed k := by
            intro k hk
            have hok : ops[k]? = some ops[k] := Array.getElem?_eq_getElem (by omega)
            have hp := hD.pair k _ j o hok hoj hk
            unfold pairOk at hp
            rw [hwr] at hp
            simp only [Bool.and_eq_true, Bool.or_eq_true, Bool.not_true, Bool.false_eq_true, and_false, false_and, or_false] at hp
            exact hah k hp.1
          have hs1 : StR g s1 tm tms w := by
            refine ⟨?_, by rw [hseg.stk]; exact hs.stk, by rw [hseg.bxs]; exact hs.bxs, hs.fz⟩
            intro t v ht
            refine hs.env t v ?_
            by_cases hx : ∃ k, i ≤ k ∧ k < j ∧ dstAt ops k = some t
            · obtain ⟨k, h1, h2, h3⟩ := hx
              rw [henv.done k t h1 h2 (hbefore k h2) h3, ← hseg.env.done k t h1 h2 trivial h3, ht]
            · rw [henv.old t (fun k h1 h2 _ h3 => hx ⟨k, h1, h2, h3⟩), ← hseg.env.old t (fun k h1 h2 _ h3 => hx ⟨k, h1, h2, h3⟩), ht]
          refine op1_ok hE hW hI hoj (List.all_eq_true.1 hall o (by simpa using Array.mem_of_getElem? hoj)) hrun hs1 hG hn (fun s' tm' g' w' hk hs' ht hn' => ?_)
          obtain ⟨m', s2, vs', hseg', hend'⟩ := seg_of hE hD (ops.toList.drop (j + 1)) (j + 1) rfl hk
          have hm' : m' ≤ ops.size := by
            rcases hend' with ⟨e, _⟩ | ⟨x, hx, _⟩
            · rw [e, List.length_drop, Array.length_toList]; have := (Array.getElem?_eq_some_iff.1 hoj).1; omega
            · exact Nat.le_of_lt (Array.getElem?_eq_some_iff.1 hx).1
          have hlo' : ∀ k, k < j + 1 → Done (listed.setIfInBounds j true) k := fun k hk => (done_set hjs).2 (by
            by_cases hkj : k = j
            · exact .inl hkj
            · exact .inr (hbefore k (by omega)))
          have hhi' : ∀ k, Done (listed.setIfInBounds j true) k → k < j + 1 := fun k hk => by
            rcases (done_set hjs).1 hk with rfl | hk
            · omega
            · have := hhi k hk; omega
          refine ih (listed.setIfInBounds j true) hl' (by simp [hsz]) hcl' ⟨⟨j + 1, s', m', s2, vs', s'.env, hseg', hm', ?_, hlo', fun k hk => Nat.lt_of_lt_of_le (hhi' k hk) hseg'.le, ⟨fun k d h1 _ hk _ => ?_, fun _ _ => rfl⟩, hs'⟩⟩ (hG.mono ht.fz) hn' (fun s' tm' g2 w2 a b c d => hQ s' tm' g2 w2 a b (ht.trans c) d)
          · rcases hend' with ⟨e1, e2⟩ | e
            · refine .inl ⟨?_, e2⟩
              rw [e1, List.length_drop, Array.length_toList]
              have := (Array.getElem?_eq_some_iff.1 hoj).1
              omega
            · exact .inr e
          · have := hhi' k hk
            omega
      · -- behind the stretch
        exfalso
        rcases hend with ⟨he, _⟩ | ⟨o', ho', hwr, _⟩
        · exact absurd (Array.getElem?_eq_some_iff.1 hoj).1 (by omega)
        · have hp := hD.pair m o' j o ho' hoj hjm
          unfold pairOk at hp
          rw [hwr] at hp
          simp only [Bool.and_eq_true, Bool.or_eq_true, Bool.not_true, Bool.false_eq_true, false_and, or_false] at hp
          exact absurd (hhi m (hah m hp.1)) (Nat.lt_irrefl _)

/-- A region whose order is drawn. -/
theorem region_ok (hE : EnvOK P E) {F : Fence} (hW : Wide F) {N : Nat} {inl : Nat → Callee → List AV → St → (AV → St → Option R) → Option R} (hI : InlOK P E inl) (hm : P.follows .mixedOrders = true) {base id : Nat} {ops : Array Oper} (hD : drawOk ops = true) {ds : List Deferred} {n : Nat} (hall : ops.toList.all (dstOk n) = true) {tms : List (Array Value)} {Q : Exit → Act → World → Prop}
    {K : St → Option R} {r : R} {g : Gh} {s : St} {tm : Array Value} {w : World} (h : runDraw E inl base ops ops.toList s K = some r) (hs : StR g s tm tms w) (hG : GlobOK E.C g.fz) (hn : tm.size = n)
    (hQ : ∀ s' tm' g' w', K s' = some r → StR g' s' tm' tms w' → Tr g w g' w' → tm'.size = n → Q .normal ⟨tm', ds⟩ w') : (Code.region id ops true).wpIn F N P Q ⟨tm, ds⟩ w := by
  refine wpIn_region_any hm ?_
  have hD' := drawOk_ok hD
  have hw : w.grownBy w.drew none := ⟨rfl, rfl, rfl, Nat.le_refl _, fun _ _ _ => rfl⟩
  have hs' : StR g s tm tms w.drew := hs.grow (fun _ _ => rfl)
  have ht : Tr g w g w.drew := Tr.grow hw
  have hno : ∀ j, ¬ Done (Array.replicate ops.size false) j := by
    intro j h
    unfold Done at h
    simp only [Array.getD_eq_getD_getElem?, Array.getElem?_replicate] at h
    split at h <;> simp at h
  obtain ⟨m, s1, vs, hseg, hend⟩ := seg_of hE hD' ops.toList 0 rfl h
  refine draw_ok hE hW hI (base := base) hD' hall ops.size _ (by simp [left, List.countP_replicate]) (by simp) (fun k _ _ hk => absurd hk (hno k)) (g := g) (w := w.drew) ⟨⟨0, s, m, s1, vs, s.env, hseg, ?_, ?_, fun j hj => by omega, fun j hj => absurd hj (hno j), ⟨fun j _ _ _ hj => absurd hj (hno j), fun _ _ => rfl⟩, hs'⟩⟩ hG hn (fun s' tm' g' w' a b c d => hQ s' tm' g' w' a b (ht.trans c) d)
  · rcases hend with ⟨e, _⟩ | ⟨x, hx, _⟩
    · rw [e]; simp
    · exact Nat.le_of_lt (Array.getElem?_eq_some_iff.1 hx).1
  · rcases hend with ⟨e1, e2⟩ | e
    · exact .inl ⟨by rw [e1]; simp, e2⟩
    · exact .inr e

end
end Go.V
