/- Part of the proof. -/
import Derived.Sort.LoopGhostIn
import Derived.RecoverIn
import Derived.ChangeArms
import Derived.OpenShut
import Derived.ChangeStays
import Derived.ReadAgain
import Derived.ChangeSame
import Derived.ChangeVars
import Derived.JoinedOf
import Derived.RowKit
import Derived.LaidLaws
import Derived.Handed
import Derived.Stop.Joined
import Derived.KernelRfl
import Derived.Test.YtfjpfjcdejjkeaaGreatDoorProg
import Derived.LaidHandle
import Derived.Test.YtfjpfjcdejjkeaaGreatDoorCards
import Derived.Test.YtfjpfjcdejjkeaaGreatDoorTie
import Derived.Shelf.Strings.Builder1
import Derived.Shelf.Strings.BuilderF
import Derived.Shelf.Strings.BuilderK
import Derived.Ground.Names2Prog
import Derived.WalkKit
import Derived.BigCall
import Derived.Test.YtfjpfjcdejjkeaaGreatDoorA2
set_option linter.all false
set_option linter.unusedVariables false
set_option linter.unusedSectionVars false
set_option linter.unusedSimpArgs false
namespace Go.V
variable [Codes]
theorem testBit_maskOf (acc : List Nat) (t : Nat) : ∀ (l : List Nat) (m : Nat), Nat.testBit (l.foldl (fun m j => m ||| (1 <<< j) ||| acc.getD j 0) m) t = true → Nat.testBit m t = true ∨ ∃ j ∈ l, j = t ∨ Nat.testBit (acc.getD j 0) t = true
 | [], m, h => .inl h
 | j :: l, m, h => by
  simp only [List.foldl_cons] at h
  rcases testBit_maskOf acc t l _ h with h | ⟨k, hk, h⟩
  ·rw [Nat.testBit_or, Nat.testBit_or, Bool.or_eq_true, Bool.or_eq_true] at h
   rcases h with (h | h) | h
   ·exact .inl h
   ·rw [Nat.one_shiftLeft, Nat.testBit_two_pow] at h
    exact .inr ⟨j, by simp, .inl (of_decide_eq_true h)⟩
   ·exact .inr ⟨j, by simp, .inr h⟩
  ·exact .inr ⟨k, by simp [hk], h⟩
theorem masks_get : ∀ (l : List Oper) (acc : List Nat), (masks l acc).length = acc.length + l.length ∧ (∀ k, k < acc.length → (masks l acc).getD k 0 = acc.getD k 0) ∧
  ∀ k o, l[k]? = some o → ∃ pre, pre.length = acc.length + k ∧ (∀ j, j < acc.length + k → pre.getD j 0 = (masks l acc).getD j 0) ∧ (masks l acc).getD (acc.length + k) 0 = maskOf pre (deps o)
 | [], acc => ⟨rfl, fun _ _ => rfl, fun k o h => by simp at h⟩
 | x :: l, acc => by
  obtain ⟨h1, h2, h3⟩ := masks_get l (acc ++ [maskOf acc (deps x)])
  have e : masks (x :: l) acc = masks l (acc ++ [maskOf acc (deps x)]) := rfl
  rw [e]
  have hold : ∀ k, k < acc.length → (acc ++ [maskOf acc (deps x)]).getD k 0 = acc.getD k 0 := fun k hk => by
   simp only [List.getD, List.getElem?_append_left hk]
  refine ⟨by rw [h1]; simp; omega, fun k hk => by rw [h2 k (by simp; omega), hold k hk], fun k o ho => ?_⟩
  cases k with
  | zero =>
   simp only [List.getElem?_cons_zero, Option.some.injEq] at ho
   subst ho
   refine ⟨acc, rfl, fun j hj => ?_, ?_⟩
   ·rw [h2 j (by simp; omega), hold j (by omega)]
   ·rw [Nat.add_zero, h2 acc.length (by simp)]
    simp [List.getD]
  | succ k =>
   obtain ⟨pre, p1, p2, p3⟩ := h3 k o (by simpa using ho)
   have el : (acc ++ [maskOf acc (deps x)]).length + k = acc.length + (k + 1) := by simp; omega
   rw [el] at p1 p2 p3
   exact ⟨pre, p1, p2, p3⟩
theorem exists_least' {p : Nat → Prop} (h : ∃ n, p n) : ∃ n, p n ∧ ∀ m, p m → n ≤ m := by
 obtain ⟨n, hn⟩ := h
 induction n using Nat.strongRecOn with
 | _ n ih =>
  by_cases hm : ∃ m, m < n ∧ p m
  ·obtain ⟨m, hlt, hp⟩ := hm
   exact ih m hlt hp
  ·exact ⟨n, hn, fun m hp => Nat.le_of_not_lt fun hlt => hm ⟨m, hlt, hp⟩⟩
section
variable {P : Program} {E : Env0} {R : Type}
structure DrawOK (ops : Array Oper) : Prop where
 deps : ∀ i x, ops[i]? = some x → ∀ j ∈ deps x, j < i
 pair : ∀ i x j y, ops[i]? = some x → ops[j]? = some y → i < j → pairOk ops (masks ops.toList []) i x j y = true
theorem pairsOk_get {ops : Array Oper} {ms : List Nat} {i : Nat} {x : Oper} : ∀ {l : List Oper} {j : Nat}, pairsOk ops ms i x j l = true → ∀ k y, l[k]? = some y → pairOk ops ms i x (j + k) y = true
 | [], _, _, k, y, h => by simp at h
 | z :: l, j, h, k, y, hy => by
  simp only [pairsOk, Bool.and_eq_true] at h
  cases k with
  | zero => simp only [List.getElem?_cons_zero, Option.some.injEq] at hy; subst hy; exact h.1
  | succ k =>
   have := pairsOk_get h.2 k y (by simpa using hy)
   rwa [show j + (k + 1) = j + 1 + k by omega]
theorem allOk_get {ops : Array Oper} {ms : List Nat} : ∀ {l : List Oper} {i : Nat}, allOk ops ms i l = true → ∀ k x, l[k]? = some x →
  (∀ j ∈ V.deps x, j < i + k) ∧ ∀ m y, k < m → l[m]? = some y → pairOk ops ms (i + k) x (i + m) y = true
 | [], _, _, k, x, h => by simp at h
 | z :: l, i, h, k, x, hx => by
  simp only [allOk, Bool.and_eq_true] at h
  cases k with
  | zero =>
   simp only [List.getElem?_cons_zero, Option.some.injEq] at hx
   subst hx
   refine ⟨fun j hj => Nat.le_of_ble_eq_true (List.all_eq_true.1 h.1.1 j hj), fun m y hm hy => ?_⟩
   cases m with
   | zero => omega
   | succ m =>
    have := pairsOk_get h.1.2 m y (by simpa using hy)
    rwa [show i + (m + 1) = i + 1 + m by omega]
  | succ k =>
   obtain ⟨h1, h2⟩ := allOk_get h.2 k x (by simpa using hx)
   refine ⟨fun j hj => by have := h1 j hj; omega, fun m y hm hy => ?_⟩
   cases m with
   | zero => omega
   | succ m =>
    have := h2 m y (by omega) (by simpa using hy)
    rwa [show i + (k + 1) = i + 1 + k by omega, show i + (m + 1) = i + 1 + m by omega]
theorem drawOk_ok {ops : Array Oper} (h : drawOk ops = true) : DrawOK ops where
 deps := fun i x hx => by
  have := (allOk_get h i x (by rw [Array.getElem?_toList]; exact hx)).1
  rwa [Nat.zero_add] at this
 pair := fun i x j y hx hy hij => by
  have := (allOk_get h i x (by rw [Array.getElem?_toList]; exact hx)).2 j y hij (by rw [Array.getElem?_toList]; exact hy)
  rwa [Nat.zero_add, Nat.zero_add] at this
theorem ahead_done' {ops : Array Oper} (hD : ∀ i x, ops[i]? = some x → ∀ j ∈ deps x, j < i) {S : Nat → Prop} (hS : ∀ k o, ops[k]? = some o → S k → ∀ j ∈ deps o, S j) : ∀ (n j : Nat), j ≤ n → ∀ o, ops[j]? = some o → (∀ d ∈ deps o, S d) → ∀ i, ahead (masks ops.toList []) i j = true → S i := by
 intro n
 induction n with
 | zero =>
  intro j hj o ho hd i ha
  have : j = 0 := by omega
  subst this
  obtain ⟨_, _, h3⟩ := masks_get ops.toList []
  obtain ⟨pre, p1, p2, p3⟩ := h3 0 o (by rw [Array.getElem?_toList]; exact ho)
  simp only [List.length_nil, Nat.add_zero] at p3
  unfold ahead at ha
  rw [p3] at ha
  rcases testBit_maskOf pre i _ 0 ha with h | ⟨d, h1, h2⟩
  ·simp at h
  ·have := hD 0 o ho d h1
   omega
 | succ n ih =>
  intro j hj o ho hd i ha
  obtain ⟨_, _, h3⟩ := masks_get ops.toList []
  obtain ⟨pre, p1, p2, p3⟩ := h3 j o (by rw [Array.getElem?_toList]; exact ho)
  simp only [List.length_nil, Nat.zero_add] at p2 p3
  unfold ahead at ha
  rw [p3] at ha
  rcases testBit_maskOf pre i _ 0 ha with h | ⟨d, h1, h2⟩
  ·simp at h
  ·have hlt := hD j o ho d h1
   have hSd := hd d h1
   rcases h2 with rfl | h2
   ·exact hSd
   ·rw [p2 d hlt] at h2
    have hj' : j < ops.size := (Array.getElem?_eq_some_iff.1 ho).1
    have hod : ops[d]? = some ops[d] := Array.getElem?_eq_getElem (by omega)
    exact ih d (by omega) _ hod (hS d _ hod hSd) i h2
theorem ahead_done {ops : Array Oper} (hD : DrawOK ops) {S : Nat → Prop} (hS : ∀ k o, ops[k]? = some o → S k → ∀ j ∈ deps o, S j) (n j : Nat) (hn : j ≤ n) (o : Oper) (ho : ops[j]? = some o) (hd : ∀ d ∈ deps o, S d) (i : Nat) (h : ahead (masks ops.toList []) i j = true) : S i :=
 ahead_done' hD.deps hS n j hn o ho hd i h
theorem restr_find : ∀ {l : List Nat} {env : Env} {t : Nat} {v : AV}, find (restr env l) t = some v → t ∈ l ∧ find env t = some v
 | [], _, _, _, h => nomatch h
 | u :: l, env, t, v, h => by
  simp only [restr] at h
  split at h
  ·rename_i x hx
   by_cases hu : u = t
   ·subst hu
    rw [find_cons_same] at h
    cases h
    exact ⟨by simp, hx⟩
   ·rw [find_cons_other _ _ hu] at h
    obtain ⟨h1, h2⟩ := restr_find h
    exact ⟨by simp [h1], h2⟩
  ·obtain ⟨h1, h2⟩ := restr_find h
   exact ⟨by simp [h1], h2⟩
theorem find_restr : ∀ {l : List Nat} {env : Env} {t : Nat} {v : AV}, t ∈ l → find env t = some v → find (restr env l) t = some v
 | u :: l, env, t, v, hm, h => by
  simp only [restr]
  by_cases hu : u = t
  ·subst hu
   simp only [h, find_cons_same]
  ·have hm' : t ∈ l := (List.mem_cons.1 hm).resolve_left (Ne.symm hu)
   split
   ·rw [find_cons_other _ _ hu]; exact find_restr hm' h
   ·exact find_restr hm' h
def argsV (bx : Bxs) : (l : List Ty) → List AV → Option (tysDen l)
 | [], [] => some ()
 | T :: l, v :: vs => match norm bx T v with
  | some x => match argsV bx l vs with
   | some y => some (x, y)
   | none => none
  | none => none
 | _, _ => none
theorem argsK_eq {bx : Bxs} {R : Type} : ∀ {l : List Ty} {vs : List AV} {K : tysDen l → Option R}, argsK bx l vs K = (argsV bx l vs).bind K
 | [], [], K => rfl
 | [], _ :: _, K => rfl
 | _ :: _, [], K => rfl
 | T :: l, v :: vs, K => by
  simp only [argsK, argsV]
  cases hn : norm bx T v with
  | none => simp
  | some x =>
   simp only
   rw [argsK_eq]
   cases argsV bx l vs <;> rfl
def Yield (P : Program) (E : Env0) (o : Oper) (env : Env) (bxs : Bxs) (v : AV) : Prop :=
 ∀ {F : Fence} {N : Nat}, Wide F → ∀ {g : Gh} {stk : List Env} {tm : Array Value} {tms : List (Array Value)} {w : World}, StR g ⟨env, stk, bxs⟩ tm tms w → GlobOK E.C g.fz → ∀ (ds : List Deferred) {next : Act → World → Prop} {Q : Exit → Act → World → Prop},
  (∀ g' z w', VR g' v z → StR g' ⟨env, stk, bxs⟩ tm tms w' → Tr g w g' w' → next (Act.put ⟨tm, ds⟩ o.dst z) w') → o.wpIn F N P ⟨tm, ds⟩ w next Q
theorem exec0_ok (hE : EnvOK P E) {base : Nat} {o : Oper} {s : St} {K : AV → Option R} {r : R} (h : exec0 E base o s K = some r) : ∃ v, K v = some r ∧ Yield P E o s.env s.bxs v := by
 unfold exec0 at h
 split at h
 ·rename_i c a b hop
  split at h
  ·rename_i t hc
   have fin : ∀ v, ev E.C s.env (if t = true then a else b) = some v → Yield P E o s.env s.bxs v := by
    intro v hv F N hW g stk tm tms w hs hG ds next Q hn
    have hcv : [Act.eval ⟨tm, ds⟩ c] = [Value.bool t] := ev_ok hs hG hc ds
    simp only [List.cons.injEq, and_true] at hcv
    have hr : (execOp (Act.eval ⟨tm, ds⟩) o).run P w = .ok (.value (Act.eval ⟨tm, ds⟩ (if t = true then a else b))) w := by
     simp only [execOp, hop, hcv]
     cases t <;> simp [asBool]
    refine wpIn_run hW (fun c hc => by rw [hop] at hc; cases hc) ?_
    rw [hr, Oper.uponIn_value]
    exact hn g _ w (ev_ok hs hG hv ds) hs (Tr.refl _ _)
   cases t
   ·simp only [cond_false] at h
    split at h
    ·rename_i v hv; exact ⟨v, h, fin v hv⟩
    ·cases h
   ·simp only [cond_true] at h
    split at h
    ·rename_i v hv; exact ⟨v, h, fin v hv⟩
    ·cases h
  ·cases h
 ·rename_i f args ats hop
  split at h
  ·rename_i f' vs hf hvs
   split at h
   ·rename_i p hp
    rw [argsK_eq, Option.bind_eq_some_iff] at h
    obtain ⟨x, hx, h⟩ := h
    rw [Option.bind_eq_some_iff] at h
    obtain ⟨y, hy, hK⟩ := h
    refine ⟨_, hK, ?_⟩
    intro F N hW g stk tm tms w hs hG ds next Q hn
    obtain ⟨cv, hcv, hcaps⟩ := ev_ok hs hG hf ds
    simp only [List.cons.injEq, and_true] at hcv
    have hv := evL_ok hs hG ds hvs
    have hcv0 : cv = #[] := by
     obtain ⟨l⟩ := cv
     cases l with
     | nil => rfl
     | cons a l => exact hcaps.elim
    obtain ⟨h1, h2⟩ := hE.pure f' p hp
    have hr : (execOp (Act.eval ⟨tm, ds⟩) o).run P w = .ok (.enter f' (args.map (Act.eval ⟨tm, ds⟩))) w := by
     simp only [execOp, hop, resolve, hcv, hcv0, Deferred.ofValue, Sem.run_bind, Sem.run_pure, Result.andThen_ok, invoke, Array.empty_append, Array.append_empty]
     exact run_callFunc h2 _ _
    refine wpIn_run hW (fun c hc => by rw [hop] at hc; cases hc) ?_
    rw [hr, Oper.uponIn_enter]
    refine ⟨hW.deep N, hW.calls.2 ?_⟩
    have hvm : ∀ {l : List AV} {cs : List Value} {g' : Gh}, ExtBut none g g' → VsR g l cs → VsR g' l cs := by
     intro l
     induction l with
     | nil => intro cs g' _ h; cases cs <;> exact h
     | cons v l ih =>
      intro cs g' hx h
      cases cs with
      | nil => exact h.elim
      | cons c cs => exact ⟨h.1.grow hx, ih hx h.2⟩
    have harg : ∀ {g' : Gh} {bx : Bxs}, BxR g' bx w → FzOK g' w → ExtBut none g g' → argsV bx p.args vs = some x → TVs g'.fz p.args x (args.map (Act.eval ⟨tm, ds⟩)).toList := by
     intro g' bx hb hf he hx
     obtain ⟨x', e1, e2⟩ := argsK_ok (K := some) (r := x) hb.w hf (cs := (args.map (Act.eval ⟨tm, ds⟩)).toList) (by rw [argsK_eq, hx]; rfl) (hvm he (by rw [Array.toList_map]; exact hv))
     cases e1
     exact e2
    cases hsc : p.res.all scalar with
    | true =>
     rw [hsc, cond_true] at hx
     obtain ⟨fz1, k1, t1⟩ := StR.frzKeys s.bxs hs
     have hxt : ExtBut none g ⟨fz1, g.bx⟩ := ⟨t1.fz, fun _ _ _ h => h, fun _ _ h _ => nomatch h⟩
     refine Calls.mono (h1 fz1 w _ x y (hG.mono t1.fz) k1.fz (harg k1.bxs k1.fz hxt hx) hy) ?_
     rintro e w' ⟨cs, fz2, rfl, h4, h5, t2⟩
     have hw : ∀ b, b < w.heap.size → w'.heap[b]? = w.heap[b]? := fun b hb => t2.block b hb (not_owned _ _)
     exact hn g _ w' (TVs.scalar (fz' := g.fz) hsc h4).res (hs.grow hw) ⟨t2.os, t2.tape, t2.output, t2.size, fun _ _ _ h => h, fun _ _ h => .inl h, fun _ h => .inl h, fun b hb _ => hw b hb⟩
    | false =>
     rw [hsc, cond_false] at hx
     refine Calls.mono (h1 g.fz w _ x y hG hs.fz (harg hs.bxs hs.fz (ExtBut.refl g) hx) hy) ?_
     rintro e w' ⟨cs, fz2, rfl, h4, h5, t2⟩
     have hw : ∀ b, b < w.heap.size → w'.heap[b]? = w.heap[b]? := fun b hb => t2.block b hb (not_owned _ _)
     obtain ⟨h6, t3⟩ := hs.ghost (fz' := fz2) t2.fz (fun b o e => by
      rcases t2.fzNew b o e with h | h | h
      ·exact .inl h
      ·exact .inr h
      ·exact (not_owned _ _ h).elim) h5 t2.os t2.tape t2.output t2.size hw
     exact hn ⟨fz2, g.bx⟩ _ w' h4.res h6 t3
   ·cases h
  ·cases h
 ·split at h
  ·rename_i c v hx
   cases c with
   | false => simp at h
   | true =>
    simp only [cond_true] at h
    refine ⟨v, h, ?_⟩
    intro F N hW g stk tm tms w hs hG ds next Q hn
    have hx' : execA E.C base o ⟨s.env, stk, s.bxs⟩ = some (true, v, .none) := hx
    obtain ⟨n, w', g', h1, h2, h3, h4⟩ := execA_ok hE.cfg hs hG hx' ds
    refine wpIn_run hW (execA_noDefer hx) ?_
    rw [h1]
    rcases h2 with ⟨z, rfl, h2⟩ | ⟨rfl, h2⟩
    ·rw [Oper.uponIn_value]
     exact hn g' z w' h2 h3 h4
    ·rw [Oper.uponIn_skip]
     exact hn g' undef w' h2 h3 h4
  ·cases h
def GYield (P : Program) (E : Env0) (ops : Array Oper) (o : Oper) (env : Env) (bxs : Bxs) (v : AV) : Prop :=
 ∀ {F : Fence} {N : Nat}, Wide F → ∀ {g : Gh} {stk : List Env} {tm : Array Value} {tms : List (Array Value)} {w : World}, StR g ⟨env, stk, bxs⟩ tm tms w → GlobOK E.C g.fz → ∀ (ds : List Deferred) {i : Nat} (_ : ops[i]? = some o) {next : Act → World → Prop} {Q : Exit → Act → World → Prop},
  (∀ g' z w', VR g' v z → StR g' ⟨env, stk, bxs⟩ tm tms w' → Tr g w g' w' → next (Act.put ⟨tm, ds⟩ o.dst z) w') → wpOpIn F N P ops Q i next ⟨tm, ds⟩ w
theorem execG_ok (hE : EnvOK P E) {base : Nat} {ops : Array Oper} {o : Oper} {s : St} {K : AV → St → Option R} {r : R} (h : execG E base ops o s K = some r) :
  ∃ v s1, K v s1 = some r ∧ s1.stk = s.stk ∧ s1.bxs = s.bxs ∧ (∀ t, find s1.env t = find s.env t) ∧ GYield P E ops o (restr s.env (looks ops o)) s.bxs v := by
 have run : ∀ {K0 : AV → Option R}, (∀ (tm : Array Value) (g : Gh), EnvR g (restr s.env (looks ops o)) tm → Region.wanted o (yielded ops tm) = true) →
   exec0 E base o { s with env := restr s.env (looks ops o) } K0 = some r → ∃ v, K0 v = some r ∧ GYield P E ops o (restr s.env (looks ops o)) s.bxs v := by
  intro K0 hw h
  obtain ⟨v, h1, h2⟩ := exec0_ok hE h
  refine ⟨v, h1, fun hW g stk tm tms w hs hG ds i hi next Q hn => ?_⟩
  unfold wpOpIn
  rw [hi]
  simp only
  rw [if_pos (hw _ _ hs.env)]
  exact h2 hW hs hG ds hn
 have skip : (∀ (tm : Array Value) (g : Gh), EnvR g (restr s.env (looks ops o)) tm → Region.wanted o (yielded ops tm) = false) → GYield P E ops o (restr s.env (looks ops o)) s.bxs (.tup []) := by
  intro hw F N hW g stk tm tms w hs hG ds i hi next Q hn
  unfold wpOpIn
  rw [hi]
  simp only
  rw [if_neg (by rw [hw _ _ hs.env]; decide)]
  exact ⟨fun f _ => hW.fn f, hn g undef w (skipR g) hs (Tr.refl _ _)⟩
 unfold execG at h
 split at h
 ·rename_i hg
  obtain ⟨v, h1, h2⟩ := run (fun tm g he => by simp [Region.wanted, hg]) h
  exact ⟨v, s, h1, rfl, rfl, fun _ => rfl, h2⟩
 ·rename_i j want hg
  split at h
  ·rename_i d hj
   have hd : d ∈ looks ops o := by
    unfold looks
    rw [hg]
    simp only [hj, Option.toList_some]
    exact List.mem_append_right _ (by simp)
   have hwd : ∀ tm : Array Value, Region.wanted o (yielded ops tm) = (yielded ops tm j == some want) := fun tm => by simp [Region.wanted, hg]
   have hy : ∀ tm : Array Value, yielded ops tm j = match tm[d]? with | some (.bool b) => some b | _ => none := fun tm => by unfold yielded; rw [hj]; rfl
   have same : ∀ {v : AV}, find s.env d = some v → ∀ t, find ((d, v) :: s.env) t = find s.env t := by
    intro v hv t
    by_cases ht : d = t
    ·subst ht; rw [find_cons_same, hv]
    ·rw [find_cons_other _ _ ht]
   split at h
   ·rename_i b hb
    have hw : ∀ (tm : Array Value) (g : Gh), EnvR g (restr s.env (looks ops o)) tm → Region.wanted o (yielded ops tm) = (b == want) := by
     intro tm g he
     have hv := he d _ (find_restr hd hb)
     rw [hwd, hy, slot_bool hv]
     cases b <;> cases want <;> rfl
    cases b <;> cases want <;> simp only [cond_true, cond_false] at h
    ·obtain ⟨v, h1, h2⟩ := run (fun tm g he => by rw [hw tm g he]; rfl) h
     exact ⟨v, _, h1, rfl, rfl, same hb, h2⟩
    ·exact ⟨_, _, h, rfl, rfl, same hb, skip (fun tm g he => by rw [hw tm g he]; rfl)⟩
    ·exact ⟨_, _, h, rfl, rfl, same hb, skip (fun tm g he => by rw [hw tm g he]; rfl)⟩
    ·obtain ⟨v, h1, h2⟩ := run (fun tm g he => by rw [hw tm g he]; rfl) h
     exact ⟨v, _, h1, rfl, rfl, same hb, h2⟩
   ·rename_i hb
    refine ⟨_, _, h, rfl, rfl, fun _ => rfl, skip (fun tm g he => ?_)⟩
    have hv := he d _ (find_restr hd hb)
    rw [hwd, hy]
    rcases slot_skip hv with h | h <;> rw [h] <;> cases want <;> rfl
   ·cases h
  ·cases h
theorem StR.bxEq {g : Gh} {env : Env} {stk : List Env} {b b' : Bxs} {tm : Array Value} {tms : List (Array Value)} {w : World} (h : StR g ⟨env, stk, b⟩ tm tms w) (e : ∀ k, find b' k = find b k) : StR g ⟨env, stk, b'⟩ tm tms w :=
 ⟨h.env, h.stk, ⟨fun k x hx => h.bxs.box k x (by rw [← e k]; exact hx), fun k gb hk => by show (find b' k).isSome = true; rw [e k]; exact h.bxs.dom k gb hk, h.bxs.sep⟩, h.fz⟩
def Eff.ab : Eff → Bxs → Bxs
 | .add k b, l => (k, b) :: l
 | .upd k b, l => setB l k b
 | _, l => l
theorem Eff.apply_light {e : Eff} (h : e.lightB = true) (s : St) : e.apply s = ⟨s.env, s.stk, e.ab s.bxs⟩ := by
 cases e <;> first | rfl | cases h
theorem Eff.ab_key {e : Eff} {k : Nat} {b : Box} (h : e.kb = some (k, b)) (l : Bxs) : find (e.ab l) k = some b := by
 cases e with
 | none => cases h
 | add j c => cases h; exact find_cons_same ..
 | upd j c => cases h; exact find_setB_same ..
 | app j c => cases h
theorem Eff.ab_other {e : Eff} {k : Nat} (h : ∀ b, e.kb ≠ some (k, b)) (l : Bxs) : find (e.ab l) k = find l k := by
 cases e with
 | none => rfl
 | add j c => exact find_cons_other _ _ (fun hj => h c (by rw [hj]; rfl))
 | upd j c => exact find_setB_other _ _ (fun hj => h c (by rw [hj]; rfl))
 | app j c => rfl
theorem Eff.ab_eq {e : Eff} {l l' : Bxs} (h : ∀ k, find l' k = find l k) (k : Nat) : find (e.ab l') k = find (e.ab l) k := by
 by_cases hk : ∃ b, e.kb = some (k, b)
 ·obtain ⟨b, hb⟩ := hk
  rw [ab_key hb, ab_key hb]
 ·rw [ab_other (fun b hb => hk ⟨b, hb⟩), ab_other (fun b hb => hk ⟨b, hb⟩), h k]
def InRd : Option (List Nat) → Nat → Prop
 | none, _ => True
 | some l, k => k ∈ l
def EYield (P : Program) (E : Env0) (ops : Array Oper) (o : Oper) (env : Env) (bxs : Bxs) (v : AV) (ef : Eff) : Prop :=
 ∀ {F : Fence} {N : Nat}, Wide F → ∀ {g : Gh} {stk : List Env} {tm : Array Value} {tms : List (Array Value)} {w : World}, StR g ⟨env, stk, bxs⟩ tm tms w → GlobOK E.C g.fz → ∀ (ds : List Deferred) {i : Nat} (_ : ops[i]? = some o) {next : Act → World → Prop} {Q : Exit → Act → World → Prop},
  (∀ g' z w', VR g' v z → StR g' ⟨env, stk, ef.ab bxs⟩ tm tms w' → Tr g w g' w' → next (Act.put ⟨tm, ds⟩ o.dst z) w') → wpOpIn F N P ops Q i next ⟨tm, ds⟩ w
def LYield (P : Program) (E : Env0) (ops : Array Oper) (o : Oper) (env : Env) (b : Bxs) (v : AV) (ef : Eff) (rd : Option (List Nat)) : Prop :=
 ∀ b', (∀ k, InRd rd k → find b' k = find b k) → EYield P E ops o (restr env (looks ops o)) b' v ef
theorem moreV_plain {C : Cfg} {b b' : Bxs} {e : Nat} {y : AV} (h : plainY y = true) : moreV C b' e y = moreV C b e y := by
 cases y with
 | val T x => cases T <;> rfl
 | nils => rfl
 | full T l => rfl
 | _ => cases h
theorem appendV_plain {C : Cfg} {b b' : Bxs} {key t yt : Nat} {x y : AV} (hx : plainX x = true) (hy : plainY y = true) : appendV C b' key t x y yt = appendV C b key t x y yt := by
 have hm : ∀ e, moreV C b' e y = moreV C b e y := fun e => moreV_plain hy
 unfold appendV
 cases x with
 | nils => simp only [hm]
 | full T l => cases l <;> simp only [hm]
 | _ => cases hx
theorem appendV_key {C : Cfg} {b : Bxs} {key t yt k : Nat} {x y v : AV} {c : Bool} {bx : Box} (hx : plainX x = true) (he : appendV C b key t x y yt = some (c, v, .add k bx)) : k = key := by
 unfold appendV at he
 split at he
 ·split at he
  ·cases he
  ·split at he
   ·cases x with
    | nils =>
     simp only [Option.some.injEq, Prod.mk.injEq, Eff.add.injEq] at he
     exact he.2.2.1.symm
    | full T l =>
     cases l with
     | nil =>
      simp only [Option.some.injEq, Prod.mk.injEq, Eff.add.injEq] at he
      exact he.2.2.1.symm
     | cons a l =>
      simp only at he
      split at he
      ·simp only [Option.some.injEq, Prod.mk.injEq, Eff.add.injEq] at he
       exact he.2.2.1.symm
      ·cases he
    | _ => cases hx
   ·cases he
 ·cases he
theorem conv_noRow {b b' : Bxs} {T : Ty} {v : AV} (h : v.isRow = false) : conv b' T v = conv b T v := by
 cases v <;> first | rfl | (cases h; done)
theorem rd_noRow {b b' : Bxs} : ∀ (T : Ty) (gs : List AV), (gs.all fun g => !g.isRow) = true → T.rd b' gs = T.rd b gs ∧ ∀ x l, T.rd b gs = some (x, l) → (l.all fun g => !g.isRow) = true := by
 have one : ∀ (T : Ty), (∀ (bx : Bxs) (gs : List AV), T.rd bx gs = match gs with | v :: l => (match conv bx T v with | some x => some (x, l) | none => none) | [] => none) →
   ∀ (gs : List AV), (gs.all fun g => !g.isRow) = true → T.rd b' gs = T.rd b gs ∧ ∀ x l, T.rd b gs = some (x, l) → (l.all fun g => !g.isRow) = true := by
  intro T hT gs h
  rw [hT b', hT b]
  cases gs with
  | nil => exact ⟨rfl, fun x l e => by cases e⟩
  | cons v l =>
   simp only [List.all_cons, Bool.and_eq_true, Bool.not_eq_true'] at h
   simp only [conv_noRow (b := b) (b' := b') (T := T) h.1, true_and]
   intro x l' e
   split at e
   ·cases e
    exact h.2
   ·cases e
 intro T
 induction T with
 | unit => intro gs h; exact ⟨rfl, fun x l e => by cases e; exact h⟩
 | pair A B ihA ihB =>
  intro gs h
  obtain ⟨e1, e2⟩ := ihA gs h
  simp only [Ty.rd, e1]
  cases hA : A.rd b gs with
  | none => exact ⟨rfl, fun x l e => by cases e⟩
  | some p =>
   obtain ⟨x, l⟩ := p
   obtain ⟨f1, f2⟩ := ihB l (e2 x l hA)
   simp only [f1]
   cases hB : B.rd b l with
   | none => exact ⟨trivial, fun x l e => by cases e⟩
   | some p =>
    obtain ⟨y, l2⟩ := p
    refine ⟨trivial, fun x' l' e => ?_⟩
    simp only [Option.some.injEq, Prod.mk.injEq] at e
    rw [← e.2]
    exact f2 y l2 hB
 | int k => exact one _ (fun bx gs => by cases gs <;> rfl)
 | bool => exact one _ (fun bx gs => by cases gs <;> rfl)
 | str => exact one _ (fun bx gs => by cases gs <;> rfl)
 | sl e _ => exact one _ (fun bx gs => by cases gs <;> rfl)
 | arr n e _ => exact one _ (fun bx gs => by cases gs <;> rfl)
theorem norm_noRow {b b' : Bxs} {T : Ty} {v : AV} (h : v.noRow = true) : norm b' T v = norm b T v := by
 unfold norm
 rw [(rd_noRow (b := b) (b' := b') T v.gs h).1]
theorem argsV_noRow {b b' : Bxs} : ∀ (l : List Ty) (vs : List AV), vs.all AV.noRow = true → argsV b' l vs = argsV b l vs
 | [], [], _ => rfl
 | [], _ :: _, _ => rfl
 | _ :: _, [], _ => rfl
 | T :: l, v :: vs, h => by
  simp only [List.all_cons, Bool.and_eq_true] at h
  simp only [argsV]
  rw [norm_noRow (b := b) h.1, argsV_noRow l vs h.2]
theorem exec0_call {base : Nat} {o : Oper} (hc : isCallV o = true) {s : St} {K : AV → Option R} {r : R} (h : exec0 E base o s K = some r) {ks : List Nat} (hr : rdOf E.C base o s.env = some ks) :
  ∃ v, K v = some r ∧ ∀ (b' : Bxs) (stk' : List Env), exec0 E base o ⟨s.env, stk', b'⟩ some = some v := by
 unfold isCallV at hc
 split at hc
 case h_2 => cases hc
 rename_i f args ts hop
 unfold rdOf at hr
 split at hr
 ·cases hr
 ·simp only [hop] at hr
  unfold exec0 at h
  simp only [hop] at h
  split at hr
  ·rename_i vs hvs
   cases hno : vs.all AV.noRow with
   | false => rw [hno] at hr; cases hr
   | true =>
    split at h
    ·rename_i f' vs' hf hvs'
     rw [hvs] at hvs'
     cases hvs'
     split at h
     ·rename_i p hp
      rw [argsK_eq, Option.bind_eq_some_iff] at h
      obtain ⟨x, hx, h⟩ := h
      rw [Option.bind_eq_some_iff] at h
      obtain ⟨y, hy, hK⟩ := h
      refine ⟨_, hK, fun b' stk' => ?_⟩
      unfold exec0
      simp only [hop, hf, hvs, hp]
      rw [argsK_eq]
      have e : argsV (bif p.res.all scalar then frzAll b' else b') p.args vs = some x := by
       rw [← hx]
       exact argsV_noRow _ _ hno
      rw [e, Option.bind_some, hy, Option.bind_some]
     ·cases h
    ·cases h
  ·cases hr
theorem viewT_noRow {C : Cfg} {b b' : Bxs} {e : Nat} {v : AV} (h : v.isRow = false) : viewT C b' e v = viewT C b e v := by
 cases v with
 | row => cases h
 | val T x => cases T <;> rfl
 | _ => rfl
theorem indexAddrV_local {C : Cfg} {b b' : Bxs} {t : Nat} {a iv : AV} (h : ∀ k w, a = .row k w → find b' k = find b k) : indexAddrV C b' t a iv = indexAddrV C b t a iv := by
 unfold indexAddrV
 split
 ·rfl
 ·split
  ·rfl
  ·rename_i e hu
   split
   ·rfl
   ·cases a with
    | row k w =>
     have := h k w rfl
     cases w <;> simp only [this]
    | vsl => rfl
    | val T x =>
     have : viewT C b' e (.val T x) = viewT C b e (.val T x) := viewT_noRow rfl
     simp only [this]
    | _ => rfl
  ·rfl
theorem sliceV_local {C : Cfg} {b b' : Bxs} {t : Nat} {a : AV} {lo hi mx : Option Int} (h : ∀ k w, a = .row k w → find b' k = find b k) : sliceV C b' t a lo hi mx = sliceV C b t a lo hi mx := by
 unfold sliceV
 split
 ·rfl
 ·rename_i e hu
  split
  ·rfl
  ·cases a with
   | row k w =>
    have := h k w rfl
    simp only [this]
   | val T x =>
    have : viewT C b' e (.val T x) = viewT C b e (.val T x) := viewT_noRow rfl
    simp only [this]
   | _ => rfl
 ·rfl
 ·rfl
theorem execA_local {C : Cfg} {base : Nat} {o : Oper} {env : Env} {stk stk' : List Env} {b b' : Bxs} {ks : List Nat} (h : rdOf C base o env = some ks) (hb : ∀ k ∈ ks, find b' k = find b k) : execA C base o ⟨env, stk', b'⟩ = execA C base o ⟨env, stk, b⟩ := by
 unfold rdOf at h
 split at h
 ·cases h
 ·split at h
  ·rename_i x hop; unfold execA; simp only [hop]
  ·rename_i x hop; unfold execA; simp only [hop]
  ·rename_i t x f hop; unfold execA; simp only [hop]
  ·rename_i op t x y yt hop
   unfold execA
   rw [hop]
   cases y with
   | const v => cases v <;> rfl
   | _ => rfl
  ·rename_i hop; unfold execA; simp only [hop]
  ·rename_i hop; unfold execA; simp only [hop]
  ·rename_i hop; unfold execA; simp only [hop]
  ·rename_i hop; unfold execA; simp only [hop]
  ·rename_i hop; unfold execA; simp only [hop]
  ·rename_i t ps hop
   split at h
   ·rename_i fs hu
    unfold execA
    simp only [hop, buildV, hu]
   ·cases h
  ·rename_i t n ps hop
   split at h
   ·rename_i hps
    unfold execA
    simp only [hop, hps, evP, buildSliceV, buildL, List.isEmpty_nil, Bool.not_true, Bool.and_false, cond_false]
   ·cases h
  ·rename_i t hop
   cases h
   have := hb _ (List.mem_singleton.2 rfl)
   unfold execA
   simp only [hop, keyFree, this]
  ·rename_i t x i hop
   have e : ∀ a iv, ev C env x = some a → indexAddrV C b' t a iv = indexAddrV C b t a iv := by
    intro a iv ha
    refine indexAddrV_local fun k w hk => ?_
    rw [ha, hk] at h
    cases h
    exact hb k (List.mem_singleton.2 rfl)
   unfold execA
   simp only [hop]
   cases ha : ev C env x with
   | none => rfl
   | some a =>
    cases hi : ev C env i with
    | none => rfl
    | some iv => exact e a iv ha
  ·rename_i t x lo hi mx hop
   have e : ∀ a lo hi mx, ev C env x = some a → sliceV C b' t a lo hi mx = sliceV C b t a lo hi mx := by
    intro a lo hi mx ha
    refine sliceV_local fun k w hk => ?_
    rw [ha, hk] at h
    cases h
    exact hb k (List.mem_singleton.2 rfl)
   unfold execA
   simp only [hop]
   cases ha : ev C env x with
   | none => rfl
   | some a =>
    cases h1 : idxO C env lo with
    | none => rfl
    | some lo' =>
     cases h2 : idxO C env hi with
     | none => rfl
     | some hi' =>
      cases h3 : idxO C env mx with
      | none => rfl
      | some mx' => exact e a lo' hi' mx' ha
  ·rename_i t a hop
   split at h
   ·rename_i c off p ha
    cases h
    have := hb _ (List.mem_singleton.2 rfl)
    unfold execA
    simp only [hop, ha, loadV, this]
   ·rename_i c i j ha
    cases h
    have := hb _ (List.mem_singleton.2 rfl)
    unfold execA
    simp only [hop, ha, loadV, this]
   ·rename_i gs ha
    unfold execA
    simp only [hop, ha, loadV]
   ·cases h
  ·rename_i args ts hop
   split at h
   ·rename_i x y hl
    cases hx : plainX x <;> cases hy : plainY y <;> rw [hx, hy] at h <;> simp at h
    subst h
    have hk := hb _ (List.mem_singleton.2 rfl)
    cases hts : ts.toList with
    | nil => unfold execA; simp only [hop, hl, hts]
    | cons t r =>
     cases r with
     | nil => unfold execA; simp only [hop, hl, hts]
     | cons yt r =>
      cases r with
      | cons u r => unfold execA; simp only [hop, hl, hts]
      | nil =>
       have e : appendV C b' (base + o.dst.getD 0) t x y yt = appendV C b (base + o.dst.getD 0) t x y yt := appendV_plain hx hy
       unfold execA
       simp only [hop, hl, hts, e]
       split
       ·rename_i c v k bx he
        rw [appendV_key hx he]
        unfold keyFree
        rw [hk]
       ·rfl
   ·cases h
  ·rename_i f args ts hop
   unfold execA
   simp only [hop]
  ·cases h
theorem lightW_ok (hE : EnvOK P E) {base : Nat} {ops : Array Oper} {o : Oper} {env : Env} {stk : List Env} {b : Bxs} {v : AV} {ef : Eff} (hl : ef.lightB = true) (hg : o.guard = none) (h : execA E.C base o ⟨restr env (looks ops o), stk, b⟩ = some (true, v, ef)) :
  LYield P E ops o env b v ef (rdOf E.C base o (restr env (looks ops o))) := by
 have main : ∀ {b0 : Bxs}, execA E.C base o ⟨restr env (looks ops o), stk, b0⟩ = some (true, v, ef) → EYield P E ops o (restr env (looks ops o)) b0 v ef := by
  intro b0 h F N hW g stk' tm tms w hs hG ds i hi next Q hn
  have h' : execA E.C base o ⟨restr env (looks ops o), stk', b0⟩ = some (true, v, ef) := h
  obtain ⟨n, w', g', h1, h2, h3, h4⟩ := execA_ok hE.cfg hs hG h' ds
  rw [Eff.apply_light hl] at h3
  unfold wpOpIn
  rw [hi]
  simp only
  rw [if_pos (by simp [Region.wanted, hg])]
  refine wpIn_run hW (execA_noDefer h') ?_
  rw [h1]
  rcases h2 with ⟨z, rfl, h2⟩ | ⟨rfl, h2⟩
  ·rw [Oper.uponIn_value]
   exact hn g' z w' h2 h3 h4
  ·rw [Oper.uponIn_skip]
   exact hn g' undef w' h2 h3 h4
 intro b' hb
 cases hr : rdOf E.C base o (restr env (looks ops o)) with
 | some ks =>
  rw [hr] at hb
  exact main (by rw [execA_local (stk := stk) (b := b) hr hb]; exact h)
 | none =>
  rw [hr] at hb
  have heq : ∀ k, find b' k = find b k := fun k => hb k trivial
  intro F N hW g stk' tm tms w hs hG ds i hi next Q hn
  exact main h hW (hs.bxEq (fun k => (heq k).symm)) hG ds hi (fun g' z w' a c d => hn g' z w' a (c.bxEq (Eff.ab_eq heq)) d)
theorem exec0_light {base : Nat} {o : Oper} (hc : isCallV o = false) {s : St} {K : AV → Option R} {ks : List Nat} (h : rdOf E.C base o s.env = some ks) : exec0 E base o s K = match execA E.C base o s with
  | some (c, v, .none) => bif c then K v else none
  | _ => none := by
 unfold rdOf at h
 split at h
 ·cases h
 ·unfold exec0
  split at h <;> first | (cases h; done) | (rename_i hop; unfold isCallV at hc; rw [hop] at hc; cases hc; done) | (rename_i hop; simp only [hop]; rfl)
theorem execG_light (hE : EnvOK P E) {base : Nat} {ops : Array Oper} {o : Oper} {s : St} {K : AV → St → Option R} {r : R} (h : execG E base ops o s K = some r) :
  ∃ v s1, K v s1 = some r ∧ s1.stk = s.stk ∧ s1.bxs = s.bxs ∧ (∀ t, find s1.env t = find s.env t) ∧ LYield P E ops o s.env s.bxs v .none (rdOf E.C base o (restr s.env (looks ops o))) := by
 cases hr : rdOf E.C base o (restr s.env (looks ops o)) with
 | none =>
  obtain ⟨v, s1, h1, h2, h3, h4, h5⟩ := execG_ok hE h
  refine ⟨v, s1, h1, h2, h3, h4, fun b' hb => ?_⟩
  have heq : ∀ k, find b' k = find s.bxs k := fun k => hb k trivial
  intro F N hW g stk' tm tms w hs hG ds i hi next Q hn
  exact h5 hW (hs.bxEq (fun k => (heq k).symm)) hG ds hi (fun g' z w' a c d => hn g' z w' a (c.bxEq heq) d)
 | some ks =>
  have hg : o.guard = none := by
   unfold rdOf at hr
   split at hr
   ·cases hr
   ·rename_i hg; exact hg
  unfold execG at h
  rw [hg] at h
  simp only at h
  cases hcv : isCallV o with
  | true =>
   obtain ⟨v, h1, h2⟩ := exec0_call hcv h (ks := ks) (show rdOf E.C base o (restr s.env (looks ops o)) = some ks from hr)
   refine ⟨v, s, h1, rfl, rfl, fun _ => rfl, fun b' _ => ?_⟩
   intro F N hW g stk' tm tms w hs hG ds i hi next Q hn
   obtain ⟨v', e1, e2⟩ := exec0_ok (P := P) hE (s := ⟨restr s.env (looks ops o), stk', b'⟩) (K := some) (h2 b' stk')
   cases e1
   unfold wpOpIn
   rw [hi]
   simp only
   rw [if_pos (by simp [Region.wanted, hg])]
   exact e2 hW hs hG ds hn
  | false =>
  rw [exec0_light hcv (ks := ks) (show rdOf E.C base o (restr s.env (looks ops o)) = some ks from hr)] at h
  split at h
  ·rename_i c v hx
   cases c with
   | false => simp at h
   | true =>
    simp only [cond_true] at h
    refine ⟨v, s, h, rfl, rfl, fun _ => rfl, ?_⟩
    have := lightW_ok (P := P) hE (stk := s.stk) (ops := ops) (env := s.env) (ef := .none) rfl hg hx
    rw [hr] at this
    exact this
  ·cases h
def dstAt (ops : Array Oper) (j : Nat) : Option Nat := (ops[j]?).bind (·.dst)
structure EnvAt (ops : Array Oper) (i m : Nat) (vs : Nat → AV) (e0 e1 : Env) (T : Nat → Prop) : Prop where
 done : ∀ j d, i ≤ j → j < m → T j → dstAt ops j = some d → find e1 d = some (vs j)
 old : ∀ t, (∀ j, i ≤ j → j < m → T j → dstAt ops j ≠ some t) → find e1 t = find e0 t
structure BAt (i m : Nat) (ef : Nat → Eff) (b0 b1 : Bxs) (T : Nat → Prop) : Prop where
 done : ∀ j k b, i ≤ j → j < m → T j → (ef j).kb = some (k, b) → (∀ j', j < j' → j' < m → T j' → ∀ c, (ef j').kb ≠ some (k, c)) → find b1 k = some b
 old : ∀ k, (∀ j, i ≤ j → j < m → T j → ∀ c, (ef j).kb ≠ some (k, c)) → find b1 k = find b0 k
theorem exists_greatest {p : Nat → Prop} : ∀ (m : Nat), (∃ n, n < m ∧ p n) → ∃ n, n < m ∧ p n ∧ ∀ j, n < j → j < m → ¬ p j
 | 0, ⟨_, h, _⟩ => by omega
 | m + 1, ⟨n, hn, hp⟩ => by
  by_cases h : p m
  ·exact ⟨m, by omega, h, fun j h1 h2 => by omega⟩
  ·have hne : n ≠ m := fun e => h (e ▸ hp)
   obtain ⟨n', h1, h2, h3⟩ := exists_greatest m ⟨n, by omega, hp⟩
   refine ⟨n', by omega, h2, fun j h4 h5 => ?_⟩
   by_cases hj : j = m
   ·subst hj; exact h
   ·exact h3 j h4 (by omega)
theorem BAt.same {i m1 m2 k : Nat} {ef : Nat → Eff} {b0 b1 b2 : Bxs} {T1 T2 : Nat → Prop} (h1 : BAt i m1 ef b0 b1 T1) (h2 : BAt i m2 ef b0 b2 T2)
  (he : ∀ j c, i ≤ j → (ef j).kb = some (k, c) → ((j < m1 ∧ T1 j) ↔ (j < m2 ∧ T2 j))) : find b1 k = find b2 k := by
 by_cases hx : ∃ j, j < m1 ∧ (i ≤ j ∧ T1 j ∧ ∃ c, (ef j).kb = some (k, c))
 ·obtain ⟨j, a1, ⟨a2, a3, c, a4⟩, a5⟩ := exists_greatest m1 hx
  have hj := (he j c a2 a4).1 ⟨a1, a3⟩
  rw [h1.done j k c a2 a1 a3 a4 (fun j' q1 q2 q3 c' q4 => a5 j' q1 q2 ⟨by omega, q3, c', q4⟩)]
  rw [h2.done j k c a2 hj.1 hj.2 a4 (fun j' q1 q2 q3 c' q4 => a5 j' q1 ((he j' c' (by omega) q4).2 ⟨q2, q3⟩).1 ⟨by omega, ((he j' c' (by omega) q4).2 ⟨q2, q3⟩).2, c', q4⟩)]
 ·rw [h1.old k (fun j q1 q2 q3 c q4 => hx ⟨j, q2, q1, q3, c, q4⟩)]
  rw [h2.old k (fun j q1 q2 q3 c q4 => hx ⟨j, ((he j c q1 q4).2 ⟨q2, q3⟩).1, q1, ((he j c q1 q4).2 ⟨q2, q3⟩).2, c, q4⟩)]
structure Seg (P : Program) (E : Env0) (ops : Array Oper) (i m : Nat) (s0 s1 : St) (vs : Nat → AV) (ef : Nat → Eff) (rd : Nat → Option (List Nat)) : Prop where
 le : i ≤ m
 stk : s1.stk = s0.stk
 bx : BAt i m ef s0.bxs s1.bxs fun _ => True
 env : EnvAt ops i m vs s0.env s1.env fun _ => True
 op : ∀ j, i ≤ j → j < m → ∃ o e b, ops[j]? = some o ∧ LYield P E ops o e b (vs j) (ef j) (rd j) ∧ EnvAt ops i j vs s0.env e (fun _ => True) ∧ BAt i j ef s0.bxs b fun _ => True
theorem dst_apart {ops : Array Oper} (hD : DrawOK ops) {i j d : Nat} (h : i < j) (h1 : dstAt ops i = some d) : dstAt ops j ≠ some d := by
 intro h2
 unfold dstAt at h1 h2
 rw [Option.bind_eq_some_iff] at h1 h2
 obtain ⟨x, hx, hxd⟩ := h1
 obtain ⟨y, hy, hyd⟩ := h2
 have := hD.pair i x j y hx hy h
 unfold pairOk at this
 rw [hxd, hyd] at this
 simp only [Bool.and_eq_true, Nat.beq_refl, Bool.not_true] at this
 exact absurd this.2 (by decide)
abbrev Rest (E : Env0) (inl : Nat → Callee → List AV → St → (AV → St → Option R) → (Pan → St → Option R) → Option R) (base : Nat) (ops : Array Oper) (K : Ex → St → Option R) (r : R) (m : Nat) (s1 : St) : Prop :=
 ∃ o, ops[m]? = some o ∧ (opq ops (masks ops.toList []) m o = true ∧ noDefer o = true) ∧ runOps E inl base ops [o] s1 (fun e s => match e with | .normal => runDraw E inl base ops (masks ops.toList []) (ops.toList.drop (m + 1)) (m + 1) [] s K | e => K e s) = some r
theorem seg_of (hE : EnvOK P E) {inl : Nat → Callee → List AV → St → (AV → St → Option R) → (Pan → St → Option R) → Option R} {base : Nat} {ops : Array Oper} (hD : DrawOK ops) {K : Ex → St → Option R} {r : R} :
    ∀ (rest : List Oper) (i : Nat), ops.toList.drop i = rest → ∀ {log : List Note} {s : St}, runDraw E inl base ops (masks ops.toList []) rest i log s K = some r →
      ∃ m s1 vs ef rd log', Seg P E ops i m s s1 vs ef rd ∧ logOk (masks ops.toList []) log' = true ∧ (∀ n ∈ log, n ∈ log') ∧ (∀ j, i ≤ j → j < m → (⟨j, rd j, (ef j).kb.map (·.1)⟩ : Note) ∈ log') ∧
        ((m = i + rest.length ∧ K .normal s1 = some r) ∨ Rest E inl base ops K r m s1)
  | [], i, hd, log, s, h => by
    simp only [runDraw] at h
    cases hl : logOk (masks ops.toList []) log with
    | false => rw [hl] at h; simp at h
    | true =>
      rw [hl, cond_true] at h
      exact ⟨i, s, fun _ => .junk, fun _ => .none, fun _ => none, log, ⟨Nat.le_refl _, rfl, ⟨fun j k b h1 h2 => by omega, fun _ _ => rfl⟩, ⟨fun j d h1 h2 => by omega, fun _ _ => rfl⟩, fun j h1 h2 => by omega⟩, hl, fun _ h => h, fun j h1 h2 => by omega, .inl ⟨by simp, h⟩⟩
  | o :: rest, i, hd, log, s, h => by
    have hok : ops[i]? = some o := by
      have : ops.toList[i]? = some o := by
        have := congrArg (fun l => l[0]?) hd
        simpa using this
      rw [← Array.getElem?_toList]; exact this
    have hd' : ops.toList.drop (i + 1) = rest := by
      rw [← List.drop_drop, hd]; rfl
    simp only [runDraw] at h
    cases hq : opq ops (masks ops.toList []) i o with
    | true =>
      rw [hq, cond_true] at h
      cases hl : logOk (masks ops.toList []) log with
      | false => rw [hl] at h; simp at h
      | true =>
       cases hnd : noDefer o with
       | false => rw [hnd] at h; simp at h
       | true =>
        rw [hl, hnd, Bool.and_true, cond_true] at h
        refine ⟨i, s, fun _ => .junk, fun _ => .none, fun _ => none, log, ⟨Nat.le_refl _, rfl, ⟨fun j k b h1 h2 => by omega, fun _ _ => rfl⟩, ⟨fun j d h1 h2 => by omega, fun _ _ => rfl⟩, fun j h1 h2 => by omega⟩, hl, fun _ h => h, fun j h1 h2 => by omega, .inr ⟨o, hok, ⟨hq, hnd⟩, ?_⟩⟩
        rw [hd']
        exact h
    | false =>
      rw [hq, cond_false] at h
      have step : ∃ (v : AV) (s1 : St) (e : Eff) (rd0 : Option (List Nat)), runDraw E inl base ops (masks ops.toList []) rest (i + 1) (⟨i, rd0, e.kb.map (·.1)⟩ :: log) { s1 with env := putE o.dst v s1.env } K = some r ∧ s1.stk = s.stk ∧ s1.bxs = e.ab s.bxs ∧ (∀ t, find s1.env t = find s.env t) ∧
          LYield P E ops o s.env s.bxs v e rd0 := by
        cases hw : isWriter o with
        | false =>
          rw [hw, cond_false] at h
          obtain ⟨v, s1, h1, h2, h3, h4, h5⟩ := execG_light hE h
          exact ⟨v, s1, .none, _, h1, h2, h3, h4, h5⟩
        | true =>
          rw [hw, cond_true] at h
          split at h
          · rename_i c v e hx
            cases hlb : e.lightB with
            | false => rw [hlb] at h; simp at h
            | true =>
              cases c with
              | false => rw [hlb] at h; simp at h
              | true =>
                rw [hlb] at h
                simp only [Bool.and_self, cond_true] at h
                have hg : o.guard = none := by
                  unfold opq at hq
                  rw [hw] at hq
                  cases hlk : lightKind o with
                  | false => rw [hlk] at hq; simp at hq
                  | true =>
                    unfold lightKind at hlk
                    rw [Bool.and_eq_true] at hlk
                    cases hgg : o.guard with
                    | none => rfl
                    | some g => rw [hgg] at hlk; cases hlk.1
                refine ⟨v, ⟨s.env, s.stk, e.ab s.bxs⟩, e, _, ?_, rfl, rfl, fun _ => rfl, lightW_ok (P := P) hE (stk := s.stk) hlb hg hx⟩
                rw [Eff.apply_light hlb] at h
                exact h
          · cases h
      obtain ⟨v, s1, e, rd0, h1, h2, h3, h4, h5⟩ := step
      obtain ⟨m, s2, vs, ef, rd, log', hseg, hlog, hin, hent, hend⟩ := seg_of hE hD rest (i + 1) hd' h1
      have hput : ∀ t, find (putE o.dst v s1.env) t = if o.dst = some t then some v else find s.env t := by
        intro t
        cases ho : o.dst with
        | none => simp [putE, h4]
        | some d =>
          simp only [putE, Option.some.injEq]
          by_cases ht : d = t
          · subst ht; rw [find_cons_same, if_pos rfl]
          · rw [find_cons_other _ _ ht, if_neg ht, h4]
      have hdi : dstAt ops i = o.dst := by unfold dstAt; rw [hok]; rfl
      have lift : ∀ {m : Nat} {e : Env}, EnvAt ops (i + 1) m vs (putE o.dst v s1.env) e (fun _ => True) → i + 1 ≤ m → EnvAt ops i m (fun j => if j = i then v else vs j) s.env e fun _ => True := by
        intro m e he hm
        refine ⟨fun j d h1 h2 _ hj => ?_, fun t ht => ?_⟩
        · by_cases hji : j = i
          · subst hji
            rw [if_pos rfl, he.old d (fun k hk1 hk2 _ => dst_apart hD (by omega) hj), hput, ← hdi, if_pos hj]
          · rw [if_neg hji]
            exact he.done j d (by omega) h2 trivial hj
        · rw [he.old t (fun j h1 h2 _ => ht j (by omega) h2 trivial), hput, if_neg (by rw [← hdi]; exact ht i (Nat.le_refl _) (by omega) trivial)]
      have liftB : ∀ {m : Nat} {b : Bxs}, BAt (i + 1) m ef s1.bxs b (fun _ => True) → i + 1 ≤ m → BAt i m (fun j => if j = i then e else ef j) s.bxs b fun _ => True := by
        intro m b hb hm
        refine ⟨fun j k c q1 q2 _ q3 q4 => ?_, fun k q => ?_⟩
        · by_cases hji : j = i
          · subst hji
            rw [if_pos rfl] at q3
            rw [hb.old k (fun j' a1 a2 _ c' a3 => q4 j' (by omega) a2 trivial c' (by rw [if_neg (by omega)]; exact a3)), h3, Eff.ab_key q3]
          · rw [if_neg hji] at q3
            refine hb.done j k c (by omega) q2 trivial q3 (fun j' a1 a2 _ c' a3 => q4 j' a1 a2 trivial c' ?_)
            rw [if_neg (by omega)]; exact a3
        · rw [hb.old k (fun j' a1 a2 _ c' a3 => q j' (by omega) a2 trivial c' (by rw [if_neg (by omega)]; exact a3)), h3]
          refine Eff.ab_other (fun c hc => q i (Nat.le_refl _) (by omega) trivial c (by rw [if_pos rfl]; exact hc)) _
      refine ⟨m, s2, fun j => if j = i then v else vs j, fun j => if j = i then e else ef j, fun j => if j = i then rd0 else rd j, log', ⟨by have := hseg.le; omega, by rw [hseg.stk]; exact h2, liftB hseg.bx hseg.le, lift hseg.env hseg.le, fun j hj1 hj2 => ?_⟩, hlog, fun n hn => hin n (by simp [hn]), fun j q1 q2 => ?_, ?_⟩
      · by_cases hji : j = i
        · subst hji
          refine ⟨o, s.env, s.bxs, hok, ?_, ⟨fun k d h1 h2 => by omega, fun _ _ => rfl⟩, ⟨fun k d b h1 h2 => by omega, fun _ _ => rfl⟩⟩
          rw [if_pos rfl, if_pos rfl, if_pos rfl]
          exact h5
        · obtain ⟨o', e', b', e1, e2, e3, e4⟩ := hseg.op j (by omega) hj2
          refine ⟨o', e', b', e1, ?_, lift e3 (by omega), liftB e4 (by omega)⟩
          rw [if_neg hji, if_neg hji, if_neg hji]
          exact e2
      · by_cases hji : j = i
        · subst hji
          show (⟨j, (if j = j then rd0 else rd j), (if j = j then e else ef j).kb.map (·.1)⟩ : Note) ∈ log'
          rw [if_pos rfl, if_pos rfl]
          exact hin _ (by simp)
        · show (⟨j, (if j = i then rd0 else rd j), (if j = i then e else ef j).kb.map (·.1)⟩ : Note) ∈ log'
          rw [if_neg hji, if_neg hji]
          exact hent j (by omega) q2
      · rcases hend with ⟨e1, e2⟩ | e
        · exact .inl ⟨by rw [e1, List.length_cons]; omega, e2⟩
        · exact .inr e
def Apart (ops : Array Oper) (i m : Nat) (ef : Nat → Eff) (rd : Nat → Option (List Nat)) : Prop :=
 ∀ a b k c, i ≤ a → a < m → i ≤ b → b < m → a ≠ b → (ef a).kb = some (k, c) → ahead (masks ops.toList []) a b = true ∨ ahead (masks ops.toList []) b a = true ∨ (¬ InRd (rd b) k ∧ ∀ c', (ef b).kb ≠ some (k, c'))
theorem apart_of {ops : Array Oper} {i m : Nat} {ef : Nat → Eff} {rd : Nat → Option (List Nat)} {log : List Note} (hl : logOk (masks ops.toList []) log = true) (he : ∀ j, i ≤ j → j < m → (⟨j, rd j, (ef j).kb.map (·.1)⟩ : Note) ∈ log) : Apart ops i m ef rd := by
 intro a b k c ha1 ha2 hb1 hb2 hab hk
 have h1 := List.all_eq_true.1 hl _ (he a ha1 ha2)
 rw [hk] at h1
 simp only [Option.map_some] at h1
 have h2 := List.all_eq_true.1 h1 _ (he b hb1 hb2)
 unfold apart at h2
 simp only [Bool.or_eq_true, Bool.and_eq_true] at h2
 rcases h2 with ((h2 | h2) | h2) | ⟨h2, h3⟩
 ·exact absurd (Nat.eq_of_beq_eq_true h2) hab
 ·exact .inl h2
 ·exact .inr (.inl h2)
 ·refine .inr (.inr ⟨fun hin => ?_, fun c' hc => ?_⟩)
  ·cases hrd : rd b with
   | none => rw [hrd] at h2; cases h2
   | some ks =>
    rw [hrd] at h2 hin
    simp only [Bool.not_eq_true', List.any_eq_false] at h2
    exact h2 k hin (Nat.beq_refl k)
  ·rw [hc] at h3
   simp at h3
theorem ahead_lt {ops : Array Oper} (hD : DrawOK ops) {i j : Nat} {o : Oper} (ho : ops[j]? = some o) (h : ahead (masks ops.toList []) i j = true) : i < j :=
 ahead_done hD (S := fun k => k < j) (fun k o' hk hkj d hd => by have := hD.deps k o' hk d hd; omega) j j (Nat.le_refl _) o ho (fun d hd => hD.deps j o ho d hd) i h
def Done (listed : Array Bool) (j : Nat) : Prop := listed.getD j false = true
theorem done_set {listed : Array Bool} {i j : Nat} (hi : i < listed.size) : Done (listed.setIfInBounds i true) j ↔ j = i ∨ Done listed j := by
 unfold Done
 rw [getD_set]
 by_cases h : i = j
 ·subst h
  simp [hi]
 ·simp [h, Ne.symm h]
theorem undone {listed : Array Bool} {j : Nat} (h : listed.getD j true = false) : j < listed.size ∧ ¬ Done listed j := by
 unfold Done
 simp only [Array.getD_eq_getD_getElem?] at h ⊢
 cases e : listed[j]? with
 | none => rw [e] at h; simp at h
 | some b =>
  rw [e] at h
  simp only [Option.getD_some] at h
  subst h
  refine ⟨(Array.getElem?_eq_some_iff.1 e).1, by simp⟩
theorem undone_of {listed : Array Bool} {j : Nat} (hj : j < listed.size) (h : ¬ Done listed j) : listed.getD j true = false := by
 unfold Done at h
 simp only [Array.getD_eq_getD_getElem?, Array.getElem?_eq_getElem hj, Option.getD_some] at h ⊢
 simpa using h
def left (listed : Array Bool) : Nat := listed.toList.countP (fun b => !b)
theorem countP_set {l : List Bool} {i : Nat} (h : l[i]? = some false) : (l.set i true).countP (fun b => !b) + 1 = l.countP (fun b => !b) := by
 induction l generalizing i with
 | nil => simp at h
 | cons b l ih =>
  cases i with
  | zero =>
   simp only [List.getElem?_cons_zero, Option.some.injEq] at h
   subst h
   simp
  | succ i =>
   have := ih (i := i) (by simpa using h)
   simp only [List.set_cons_succ, List.countP_cons]
   omega
theorem left_set {listed : Array Bool} {i : Nat} (h : listed.getD i true = false) : left (listed.setIfInBounds i true) + 1 = left listed := by
 unfold left
 rw [Array.toList_setIfInBounds]
 refine countP_set ?_
 obtain ⟨h1, h2⟩ := undone h
 rw [Array.getElem?_toList]
 simp only [Array.getD_eq_getD_getElem?, Array.getElem?_eq_getElem h1, Option.getD_some] at h
 rw [Array.getElem?_eq_getElem h1, h]
theorem left_zero {listed : Array Bool} (h : left listed = 0) (j : Nat) : listed.getD j true = true := by
 cases hb : listed.getD j true with
 | true => rfl
 | false => have := left_set hb; omega
structure Mid (P : Program) (E : Env0) (inl : Nat → Callee → List AV → St → (AV → St → Option R) → (Pan → St → Option R) → Option R) (base : Nat) (ops : Array Oper) (K : Ex → St → Option R) (r : R) (tms : List (Array Value)) (listed : Array Bool) (g : Gh) (tm : Array Value) (w : World) : Prop where
 st : ∃ i s0 m s1 vs ef rd es bS, Seg P E ops i m s0 s1 vs ef rd ∧ Apart ops i m ef rd ∧ m ≤ ops.size ∧ ((m = ops.size ∧ K .normal s1 = some r) ∨ Rest E inl base ops K r m s1) ∧
  (∀ j, j < i → Done listed j) ∧ (∀ j, Done listed j → j < m) ∧ EnvAt ops i m vs s0.env es (Done listed) ∧ BAt i m ef s0.bxs bS (Done listed) ∧ StR g ⟨es, s0.stk, bS⟩ tm tms w
theorem op1_ok (hE : EnvOK P E) {F : Fence} (hW : Wide F) {N : Nat} {inl : Nat → Callee → List AV → St → (AV → St → Option R) → (Pan → St → Option R) → Option R} (hI : InlOK P E inl) {base : Nat} {ops : Array Oper} {o : Oper} {j : Nat} (hoj : ops[j]? = some o) {ds : List Deferred} {n : Nat} (hall : dstOk n o = true) (hnd : noDefer o = true) {T tms : List (Array Value)} (hT : T = dfs ds ++ tms)
    {K : Ex → St → Option R} {r : R} {g : Gh} {s : St} {tm : Array Value} {w : World} (h : runOps E inl base ops [o] s K = some r) (hs : StR g s tm T w) (hG : GlobOK E.C g.fz) (hn : tm.size = n) {next : Act → World → Prop} {Q : Exit → Act → World → Prop}
    (hQ : ∀ s' tm' g' w', K .normal s' = some r → StR g' s' tm' T w' → Tr g w g' w' → tm'.size = n → (∃ z, tm' = (Act.put ⟨tm, ds⟩ o.dst z).tmps) → next ⟨tm', ds⟩ w')
    (hP : ∀ p s' tm' g' w', K (.pan p) s' = some r → StR g' s' tm' T w' → Tr g w g' w' → tm'.size = n → Q (.panic [Pan.entry p]) ⟨tm', ds⟩ w') : wpOpIn F N P ops Q j next ⟨tm, ds⟩ w := by
  subst hT
  have hlt := dstOk_lt hall
  have run : ∀ {s1 : St}, StR g s1 tm (dfs ds ++ tms) w → exec1 E inl base o s1 (fun v s => runOps E inl base ops [] { s with env := putE o.dst v s.env } K) (fun p s => K (.pan p) s) = some r → o.wpIn F N P ⟨tm, ds⟩ w next Q := by
    intro s1 hs1 h1
    refine exec1_ok hE hW hI hs1 hG h1 (.inr hnd) (fun v s' g' z w' ds' a b c d e => ?_) (fun p s' g' w' a b c => hP p s' tm g' w' a b c hn)
    have := c.same hnd
    subst this
    rw [put_defers]
    exact hQ _ _ g' w' a (d.put (fun d hd => by rw [hn]; exact hlt d hd) b ds') e (by rw [put_size]; exact hn) ⟨z, rfl⟩
  have skip : ∀ {s1 : St}, StR g s1 tm (dfs ds ++ tms) w → runOps E inl base ops [] { s1 with env := putE o.dst (.tup []) s1.env } K = some r → next (Act.put ⟨tm, ds⟩ o.dst undef) w := by
    intro s1 hs1 h1
    rw [put_defers]
    exact hQ _ _ g w h1 (hs1.put (fun d hd => by rw [hn]; exact hlt d hd) (skipR g) ds) (Tr.refl _ _) (by rw [put_size]; exact hn) ⟨undef, rfl⟩
  unfold wpOpIn
  rw [hoj]
  simp only
  rw [runOps] at h
  split at h
  · rename_i hg
    have hw : Region.wanted o (yielded ops tm) = true := by simp [Region.wanted, hg]
    rw [if_pos hw]
    exact run hs h
  · rename_i k want hg
    split at h
    · rename_i d hk
      have hw : Region.wanted o (yielded ops tm) = (yielded ops tm k == some want) := by simp [Region.wanted, hg]
      have hy : yielded ops tm k = match tm[d]? with | some (.bool b) => some b | _ => none := by unfold yielded; rw [hk]; rfl
      split at h
      · rename_i b hb
        have hv := hs.env d _ hb
        have hy' : yielded ops tm k = some b := by rw [hy, slot_bool hv]
        rw [hw, hy']
        cases b <;> cases want <;> simp only [cond_true, cond_false] at h
        · rw [if_pos (by decide)]; exact run (hs.again hv) h
        · rw [if_neg (by decide)]; exact ⟨fun f _ => hW.fn f, skip (hs.again hv) h⟩
        · rw [if_neg (by decide)]; exact ⟨fun f _ => hW.fn f, skip (hs.again hv) h⟩
        · rw [if_pos (by decide)]; exact run (hs.again hv) h
      · rename_i hb
        have hv := hs.env d _ hb
        have hy' : yielded ops tm k = none := by
          rw [hy]
          rcases slot_skip hv with h | h <;> rw [h]
        rw [hw, hy', if_neg (by cases want <;> decide)]
        exact ⟨fun f _ => hW.fn f, skip hs h⟩
      · cases h
    · cases h
theorem draw_ok (hE : EnvOK P E) {F : Fence} (hW : Wide F) {N : Nat} {inl : Nat → Callee → List AV → St → (AV → St → Option R) → (Pan → St → Option R) → Option R} (hI : InlOK P E inl) {base : Nat} {ops : Array Oper} (hD : DrawOK ops) {ds : List Deferred} {n : Nat} (hall : ops.toList.all (dstOk n) = true) {tms T' : List (Array Value)} (hT : tms = dfs ds ++ T') {Q : Exit → Act → World → Prop} {K : Ex → St → Option R} {r : R} :
  ∀ (fuel : Nat) (listed : Array Bool), left listed = fuel → listed.size = ops.size → (∀ k o, ops[k]? = some o → Done listed k → ∀ j ∈ deps o, Done listed j) →
   ∀ {g : Gh} {tm : Array Value} {w : World}, Mid P E inl base ops K r tms listed g tm w → GlobOK E.C g.fz → tm.size = n →
   (∀ s' tm' g' w', K .normal s' = some r → StR g' s' tm' tms w' → Tr g w g' w' → tm'.size = n → Q .normal ⟨tm', ds⟩ w') → (∀ p s' tm' g' w', K (.pan p) s' = some r → StR g' s' tm' tms w' → Tr g w g' w' → tm'.size = n → Q (.panic [Pan.entry p]) ⟨tm', ds⟩ w') → wpAnyIn F N P .any ops Q fuel listed ⟨tm, ds⟩ w := by
 intro fuel
 induction fuel with
 | zero =>
  intro listed hl hsz hcl g tm w hM hG hn hQ hP
  have hdone : ∀ j, j < ops.size → Done listed j := by
   intro j hj
   have := left_zero hl j
   unfold Done
   simp only [Array.getD_eq_getD_getElem?, Array.getElem?_eq_getElem (show j < listed.size by omega), Option.getD_some] at this ⊢
   exact this
  refine ⟨?_, ?_⟩
  ·cases hr : Region.ready .any ops listed with
   | nil => rfl
   | cons j l =>
    have : j ∈ Region.ready .any ops listed := by rw [hr]; simp
    have := (mem_ready.1 this).1
    rw [left_zero hl j] at this
    cases this
  ·obtain ⟨i, s0, m, s1, vs, ef, rd, es, bS, hseg, hap, hm, hend, hlo, hhi, henv, hbS, hs⟩ := hM.st
   rcases hend with ⟨rfl, hK⟩ | ⟨o, ho, _, _⟩
   ·have hbq : ∀ k, find s1.bxs k = find bS k := fun k => hseg.bx.same hbS (fun j c _ _ => ⟨fun ⟨q1, _⟩ => ⟨q1, hdone j q1⟩, fun ⟨q1, _⟩ => ⟨q1, trivial⟩⟩)
    have hs2 := hs.bxEq hbq
    refine hQ s1 tm g w hK ⟨?_, by rw [hseg.stk]; exact hs.stk, hs2.bxs, hs.fz⟩ (Tr.refl _ _) hn
    intro t v ht
    refine hs.env t v ?_
    by_cases hx : ∃ j, i ≤ j ∧ j < ops.size ∧ dstAt ops j = some t
    ·obtain ⟨j, h1, h2, h3⟩ := hx
     rw [henv.done j t h1 h2 (hdone j h2) h3, ← hseg.env.done j t h1 h2 trivial h3, ht]
    ·rw [henv.old t (fun j h1 h2 _ h3 => hx ⟨j, h1, h2, h3⟩), ← hseg.env.old t (fun j h1 h2 _ h3 => hx ⟨j, h1, h2, h3⟩), ht]
   ·have hlt : m < ops.size := (Array.getElem?_eq_some_iff.1 ho).1
    exact absurd (hhi m (hdone m hlt)) (Nat.lt_irrefl _)
 | succ fuel ih =>
  intro listed hl hsz hcl g tm w hM hG hn hQ hP
  refine ⟨fun hr => ?_, fun j hj => ?_⟩
  ·-- nothing is ready, though something is to come
   exfalso
   have hex : ∃ j, listed.getD j true = false := by
    refine Classical.byContradiction fun hno => ?_
    have hall' : ∀ b ∈ listed.toList, b = true := by
     intro b hb
     obtain ⟨j, hj, e⟩ := List.mem_iff_getElem.1 hb
     cases b with
     | true => rfl
     | false =>
      refine absurd ⟨j, ?_⟩ hno
      have hj' : j < listed.size := by simpa using hj
      simp only [Array.getD_eq_getD_getElem?, Array.getElem?_eq_getElem hj', Option.getD_some]
      simpa using e
    have : left listed = 0 := by
     unfold left
     rw [List.countP_eq_zero]
     intro b hb
     rw [hall' b hb]
     simp
    omega
   obtain ⟨j, hj, hmin⟩ := exists_least' hex
   obtain ⟨h1, h2⟩ := undone hj
   have hoj : ops[j]? = some ops[j] := Array.getElem?_eq_getElem (by omega)
   have : j ∈ Region.ready .any ops listed := mem_ready.2 ⟨hj, _, hoj, fun e he hb => by
    have hlt := hD.deps j _ hoj e.on (List.mem_map.2 ⟨e, List.mem_filter.2 ⟨by simpa using he, hb⟩, rfl⟩)
    refine Classical.byContradiction fun hno => ?_
    have := hmin e.on (undone_of (by omega) hno)
    omega⟩
   rw [hr] at this
   cases this
  ·obtain ⟨hj0, o, hoj, hdep⟩ := mem_ready.1 hj
   obtain ⟨hjs, hnd⟩ := undone hj0
   have hdeps : ∀ d ∈ deps o, Done listed d := by
    intro d hd
    obtain ⟨e, he, rfl⟩ := List.mem_map.1 hd
    obtain ⟨he1, he2⟩ := List.mem_filter.1 he
    exact hdep e (by simpa using he1) he2
   have hah : ∀ k, ahead (masks ops.toList []) k j = true → Done listed k := ahead_done hD (S := Done listed) hcl j j (Nat.le_refl _) o hoj hdeps
   obtain ⟨i, s0, m, s1, vs, ef, rd, es, bS, hseg, hap, hm, hend, hlo, hhi, henv, hbS, hs⟩ := hM.st
   have hij : i ≤ j := by
    refine Classical.byContradiction fun h => hnd (hlo j (by omega))
   have hl' : left (listed.setIfInBounds j true) = fuel := by have := left_set hj0; omega
   have hcl' : ∀ k o', ops[k]? = some o' → Done (listed.setIfInBounds j true) k → ∀ d ∈ deps o', Done (listed.setIfInBounds j true) d := by
    intro k o' hk hd d hdd
    rw [done_set hjs] at hd ⊢
    rcases hd with rfl | hd
    ·rw [hoj] at hk
     cases hk
     exact .inr (hdeps d hdd)
    ·exact .inr (hcl k o' hk hd d hdd)
   rcases Nat.lt_trichotomy j m with hjm | hjm | hjm
   ·-- of the stretch
    obtain ⟨o', e, b, e1, e3, e4, e5⟩ := hseg.op j hij hjm
    rw [hoj] at e1
    cases e1
    have notAfter : ∀ k, i ≤ k → k < m → Done listed k → ahead (masks ops.toList []) j k ≠ true := by
     intro k h1 h2 hdk ha
     have hk : ops[k]? = some ops[k] := Array.getElem?_eq_getElem (by omega)
     exact hnd (ahead_done hD (S := Done listed) hcl k k (Nat.le_refl _) _ hk (hcl k _ hk hdk) j ha)
    have hagree : ∀ k, InRd (rd j) k → find bS k = find b k := by
     intro k hk
     refine hbS.same e5 (fun x c hx hxc => ⟨fun ⟨q1, q2⟩ => ⟨?_, trivial⟩, fun ⟨q1, _⟩ => ⟨by omega, ?_⟩⟩)
     ·have hne : x ≠ j := fun h => hnd (h ▸ q2)
      rcases hap x j k c hx q1 hij hjm hne hxc with h | h | h
      ·exact ahead_lt hD hoj h
      ·exact absurd h (notAfter x hx q1 q2)
      ·exact absurd hk h.1
     ·rcases hap x j k c hx (by omega) hij hjm (by omega) hxc with h | h | h
      ·exact hah x h
      ·have hk' : ops[x]? = some ops[x] := Array.getElem?_eq_getElem (by omega)
       have := ahead_lt hD hk' h
       omega
      ·exact absurd hk h.1
    have hR : EnvR g (restr e (looks ops o)) tm := by
     intro t v ht
     obtain ⟨ht1, ht2⟩ := restr_find ht
     refine hs.env t v ?_
     by_cases hx : ∃ k, i ≤ k ∧ k < j ∧ dstAt ops k = some t
     ·obtain ⟨k, h1, h2, h3⟩ := hx
      have hk : ∃ x, ops[k]? = some x ∧ x.dst = some t := by
       unfold dstAt at h3
       exact Option.bind_eq_some_iff.1 h3
      obtain ⟨x, hxk, hxt⟩ := hk
      have hp := hD.pair k x j o hxk hoj h2
      unfold pairOk at hp
      rw [hxt] at hp
      simp only [Bool.and_eq_true, Bool.or_eq_true, Bool.not_eq_true'] at hp
      have hdk : Done listed k := by
       rcases hp.1 with h | h
       ·exact hah k h
       ·have := h.1.2
        rw [List.contains_iff_mem.2 ht1] at this
        cases this
      rw [henv.done k t h1 (by omega) hdk h3, ← e4.done k t h1 h2 trivial h3, ht2]
     ·rw [e4.old t (fun k h1 h2 _ h3 => hx ⟨k, h1, h2, h3⟩)] at ht2
      rw [henv.old t (fun k h1 h2 hdk h3 => ?_), ht2]
      have hk : ∃ x, ops[k]? = some x ∧ x.dst = some t := by
       unfold dstAt at h3
       exact Option.bind_eq_some_iff.1 h3
      obtain ⟨x, hxk, hxt⟩ := hk
      rcases Nat.lt_trichotomy k j with hkj | hkj | hkj
      ·exact hx ⟨k, h1, hkj, h3⟩
      ·subst hkj; exact hnd hdk
      ·have hp := hD.pair j o k x hoj hxk hkj
       unfold pairOk at hp
       rw [hxt] at hp
       simp only [Bool.and_eq_true, Bool.or_eq_true, Bool.not_eq_true'] at hp
       rcases hp.1 with h | h
       ·exact hnd (ahead_done hD (S := Done listed) hcl k k (Nat.le_refl _) x hxk (hcl k x hxk hdk) j h)
       ·have := h.2
        rw [List.contains_iff_mem.2 ht1] at this
        cases this
    have hs2 : StR g ⟨restr e (looks ops o), es :: s0.stk, bS⟩ tm (tm :: tms) w := ⟨hR, ⟨hs.env, hs.stk⟩, hs.bxs, hs.fz⟩
    refine e3 bS hagree hW hs2 hG ds hoj (fun g' z w' hv hs3 ht => ?_)
    rw [put_defers]
    refine ih (listed.setIfInBounds j true) hl' (by simp [hsz]) hcl' ⟨⟨i, s0, m, s1, vs, ef, rd, putE o.dst (vs j) es, (ef j).ab bS, hseg, hap, hm, hend, fun k hk => (done_set hjs).2 (.inr (hlo k hk)), fun k hk => ?_, ⟨fun k d h1 h2 hk hd => ?_, fun t ht' => ?_⟩, ⟨fun x k c q1 q2 q3 q4 q5 => ?_, fun k q => ?_⟩, ?_⟩⟩ (hG.mono ht.fz) (by rw [put_size]; exact hn) (fun s' tm' g2 w2 a b c d => hQ s' tm' g2 w2 a b (ht.trans c) d) (fun p s' tm' g2 w2 a b c d => hP p s' tm' g2 w2 a b (ht.trans c) d)
    ·rcases (done_set hjs).1 hk with rfl | hk
     ·exact hjm
     ·exact hhi k hk
    ·have hdj : dstAt ops j = o.dst := by unfold dstAt; rw [hoj]; rfl
     rcases (done_set hjs).1 hk with rfl | hk2
     ·rw [hdj] at hd
      rw [hd]
      simp only [putE, find_cons_same]
     ·have hne : o.dst ≠ some d := by
       intro hod
       rw [← hdj] at hod
       rcases Nat.lt_trichotomy k j with hkj | hkj | hkj
       ·exact dst_apart hD hkj hd hod
       ·subst hkj; exact hnd hk2
       ·exact dst_apart hD hkj hod hd
      have : find (putE o.dst (vs j) es) d = find es d := by
       cases hod : o.dst with
       | none => rfl
       | some u => simp only [putE]; rw [find_cons_other _ _ (fun e => hne (by rw [hod, e]))]
      rw [this]
      exact henv.done k d h1 h2 hk2 hd
    ·have hdj : dstAt ops j = o.dst := by unfold dstAt; rw [hoj]; rfl
     have hne : o.dst ≠ some t := by
      rw [← hdj]
      exact ht' j hij hjm ((done_set hjs).2 (.inl rfl))
     have : find (putE o.dst (vs j) es) t = find es t := by
      cases hod : o.dst with
      | none => rfl
      | some u => simp only [putE]; rw [find_cons_other _ _ (fun e => hne (by rw [hod, e]))]
     rw [this]
     exact henv.old t (fun k h1 h2 hk => ht' k h1 h2 ((done_set hjs).2 (.inr hk)))
    ·-- the boxes of what is done
     by_cases hxj : x = j
     ·subst hxj
      exact Eff.ab_key q4 _
     ·have hdx : Done listed x := ((done_set hjs).1 q3).resolve_left hxj
      have hjk : ∀ c', (ef j).kb ≠ some (k, c') := by
       intro c' hc'
       by_cases hlt : x < j
       ·exact q5 j hlt hjm ((done_set hjs).2 (.inl rfl)) c' hc'
       ·rcases hap x j k c q1 q2 hij hjm hxj q4 with h | h | h
        ·exact hlt (ahead_lt hD hoj h)
        ·exact notAfter x q1 q2 hdx h
        ·exact h.2 c' hc'
      rw [Eff.ab_other hjk]
      exact hbS.done x k c q1 q2 hdx q4 (fun y a1 a2 a3 c' a4 => q5 y a1 a2 ((done_set hjs).2 (.inr a3)) c' a4)
    ·rw [Eff.ab_other (fun c' hc' => q j hij hjm ((done_set hjs).2 (.inl rfl)) c' hc')]
     exact hbS.old k (fun y a1 a2 a3 c' a4 => q y a1 a2 ((done_set hjs).2 (.inr a3)) c' a4)
    ·have hs4 : StR g' ⟨es, s0.stk, (ef j).ab bS⟩ tm tms w' := ⟨hs3.stk.1, hs3.stk.2, hs3.bxs, hs3.fz⟩
     exact hs4.put (fun d hd => by rw [hn]; exact dstOk_lt (List.all_eq_true.1 hall o (by simpa using Array.mem_of_getElem? hoj)) d hd) hv ds
   ·-- the operation that ends the stretch
    subst hjm
    rcases hend with ⟨he, _⟩ | ⟨o', ho', hwr, hrun⟩
    ·exact absurd (Array.getElem?_eq_some_iff.1 hoj).1 (by omega)
    ·rw [hoj] at ho'
     cases ho'
     have hbefore : ∀ k, k < j → Done listed k := by
      intro k hk
      have hok : ops[k]? = some ops[k] := Array.getElem?_eq_getElem (by omega)
      have hp := hD.pair k _ j o hok hoj hk
      unfold pairOk at hp
      rw [hwr.1] at hp
      simp only [Bool.and_eq_true, Bool.or_eq_true, Bool.not_true, Bool.false_eq_true, and_false, false_and, or_false] at hp
      exact hah k hp.1
     have hbq : ∀ k, find s1.bxs k = find bS k := fun k => hseg.bx.same hbS (fun x c _ _ => ⟨fun ⟨q1, _⟩ => ⟨q1, hbefore x q1⟩, fun ⟨q1, _⟩ => ⟨q1, trivial⟩⟩)
     have hs1 : StR g s1 tm tms w := by
      refine ⟨?_, by rw [hseg.stk]; exact hs.stk, (hs.bxEq hbq).bxs, hs.fz⟩
      intro t v ht
      refine hs.env t v ?_
      by_cases hx : ∃ k, i ≤ k ∧ k < j ∧ dstAt ops k = some t
      ·obtain ⟨k, h1, h2, h3⟩ := hx
       rw [henv.done k t h1 h2 (hbefore k h2) h3, ← hseg.env.done k t h1 h2 trivial h3, ht]
      ·rw [henv.old t (fun k h1 h2 _ h3 => hx ⟨k, h1, h2, h3⟩), ← hseg.env.old t (fun k h1 h2 _ h3 => hx ⟨k, h1, h2, h3⟩), ht]
     refine op1_ok hE hW hI hoj (List.all_eq_true.1 hall o (by simpa using Array.mem_of_getElem? hoj)) hwr.2 hT hrun hs1 hG hn (fun s' tm' g' w' hk hs' ht hn' _ => ?_) (fun p s' tm' g' w' a b c d => hP p s' tm' g' w' a b c d)
     obtain ⟨m', s2, vs', ef', rd', log', hseg', hlog', _, hent', hend'⟩ := seg_of hE hD (ops.toList.drop (j + 1)) (j + 1) rfl hk
     have hm' : m' ≤ ops.size := by
      rcases hend' with ⟨e, _⟩ | ⟨x, hx, _⟩
      ·rw [e, List.length_drop, Array.length_toList]; have := (Array.getElem?_eq_some_iff.1 hoj).1; omega
      ·exact Nat.le_of_lt (Array.getElem?_eq_some_iff.1 hx).1
     have hlo' : ∀ k, k < j + 1 → Done (listed.setIfInBounds j true) k := fun k hk => (done_set hjs).2 (by
      by_cases hkj : k = j
      ·exact .inl hkj
      ·exact .inr (hbefore k (by omega)))
     have hhi' : ∀ k, Done (listed.setIfInBounds j true) k → k < j + 1 := fun k hk => by
      rcases (done_set hjs).1 hk with rfl | hk
      ·omega
      ·have := hhi k hk; omega
     refine ih (listed.setIfInBounds j true) hl' (by simp [hsz]) hcl' ⟨⟨j + 1, s', m', s2, vs', ef', rd', s'.env, s'.bxs, hseg', apart_of hlog' hent', hm', ?_, hlo', fun k hk => Nat.lt_of_lt_of_le (hhi' k hk) hseg'.le, ⟨fun k d h1 _ hk _ => ?_, fun _ _ => rfl⟩, ⟨fun k d b h1 _ hk _ => ?_, fun _ _ => rfl⟩, hs'⟩⟩ (hG.mono ht.fz) hn' (fun s' tm' g2 w2 a b c d => hQ s' tm' g2 w2 a b (ht.trans c) d) (fun p s' tm' g2 w2 a b c d => hP p s' tm' g2 w2 a b (ht.trans c) d)
     ·rcases hend' with ⟨e1, e2⟩ | e
      ·refine .inl ⟨?_, e2⟩
       rw [e1, List.length_drop, Array.length_toList]
       have := (Array.getElem?_eq_some_iff.1 hoj).1
       omega
      ·exact .inr e
     ·have := hhi' k hk
      omega
     ·have := hhi' k hk
      omega
   ·-- behind the stretch
    exfalso
    rcases hend with ⟨he, _⟩ | ⟨o', ho', hwr, _⟩
    ·exact absurd (Array.getElem?_eq_some_iff.1 hoj).1 (by omega)
    ·have hp := hD.pair m o' j o ho' hoj hjm
     unfold pairOk at hp
     rw [hwr.1] at hp
     simp only [Bool.and_eq_true, Bool.or_eq_true, Bool.not_true, Bool.false_eq_true, false_and, or_false] at hp
     exact absurd (hhi m (hah m hp.1)) (Nat.lt_irrefl _)
theorem region_ok (hE : EnvOK P E) {F : Fence} (hW : Wide F) {N : Nat} {inl : Nat → Callee → List AV → St → (AV → St → Option R) → (Pan → St → Option R) → Option R} (hI : InlOK P E inl) (hm : P.follows .mixedOrders = true) {base id : Nat} {ops : Array Oper} (hD : drawOk ops = true) {ds : List Deferred} {n : Nat} (hall : ops.toList.all (dstOk n) = true) {tms T' : List (Array Value)} (hT : tms = dfs ds ++ T') {Q : Exit → Act → World → Prop}
    {K : Ex → St → Option R} {r : R} {g : Gh} {s : St} {tm : Array Value} {w : World} (h : runDraw E inl base ops (masks ops.toList []) ops.toList 0 [] s K = some r) (hs : StR g s tm tms w) (hG : GlobOK E.C g.fz) (hn : tm.size = n)
    (hQ : ∀ s' tm' g' w', K .normal s' = some r → StR g' s' tm' tms w' → Tr g w g' w' → tm'.size = n → Q .normal ⟨tm', ds⟩ w')
    (hP : ∀ p s' tm' g' w', K (.pan p) s' = some r → StR g' s' tm' tms w' → Tr g w g' w' → tm'.size = n → Q (.panic [Pan.entry p]) ⟨tm', ds⟩ w') : (Code.region id ops true).wpIn F N P Q ⟨tm, ds⟩ w := by
  refine wpIn_region_any hm ?_
  have hD' := drawOk_ok hD
  have hw : w.grownBy w.drew none := ⟨rfl, rfl, rfl, Nat.le_refl _, fun _ _ _ => rfl⟩
  have hs' : StR g s tm tms w.drew := hs.grow (fun _ _ => rfl)
  have ht : Tr g w g w.drew := Tr.grow hw
  have hno : ∀ j, ¬ Done (Array.replicate ops.size false) j := by
    intro j h
    unfold Done at h
    simp only [Array.getD_eq_getD_getElem?, Array.getElem?_replicate] at h
    split at h <;> simp at h
  obtain ⟨m, s1, vs, ef, rd, log', hseg, hlog, _, hent, hend⟩ := seg_of hE hD' ops.toList 0 rfl h
  refine draw_ok hE hW hI (base := base) hD' hall hT ops.size _ (by simp [left, List.countP_replicate]) (by simp) (fun k _ _ hk => absurd hk (hno k)) (g := g) (w := w.drew) ⟨⟨0, s, m, s1, vs, ef, rd, s.env, s.bxs, hseg, apart_of hlog hent, ?_, ?_, fun j hj => by omega, fun j hj => absurd hj (hno j), ⟨fun j _ _ _ hj => absurd hj (hno j), fun _ _ => rfl⟩, ⟨fun j _ _ _ _ hj => absurd hj (hno j), fun _ _ => rfl⟩, hs'⟩⟩ hG hn (fun s' tm' g' w' a b c d => hQ s' tm' g' w' a b (ht.trans c) d) (fun p s' tm' g' w' a b c d => hP p s' tm' g' w' a b (ht.trans c) d)
  · rcases hend with ⟨e, _⟩ | ⟨x, hx, _⟩
    · rw [e]; simp
    · exact Nat.le_of_lt (Array.getElem?_eq_some_iff.1 hx).1
  · rcases hend with ⟨e1, e2⟩ | e
    · exact .inl ⟨by rw [e1]; simp, e2⟩
    · exact .inr e
theorem find_dropE {D : List Nat} : ∀ {env : Env} {n : Nat} {v : AV}, find (dropE D env) n = some v → n ∉ D ∧ ∃ u, find env n = some u
 | [], _, _, h => nomatch h
 | (m, u) :: l, n, v, h => by
  simp only [dropE] at h
  cases hc : D.contains m with
  | true =>
   rw [hc, cond_true] at h
   obtain ⟨h1, u', h2⟩ := find_dropE h
   refine ⟨h1, ?_⟩
   by_cases hm : m = n
   ·subst hm; exact absurd (List.contains_iff_mem.1 hc) h1
   ·exact ⟨u', by rw [find_cons_other _ _ hm]; exact h2⟩
  | false =>
   rw [hc, cond_false] at h
   by_cases hm : m = n
   ·subst hm
    exact ⟨fun hd => (by rw [List.contains_iff_mem.2 hd] at hc; cases hc), u, find_cons_same _ _ _⟩
   ·rw [find_cons_other _ _ hm] at h
    obtain ⟨h1, u', h2⟩ := find_dropE h
    exact ⟨h1, u', by rw [find_cons_other _ _ hm]; exact h2⟩
theorem find_dropE_eq {D : List Nat} : ∀ {env : Env} {n : Nat} {v : AV}, find (dropE D env) n = some v → find env n = some v
 | [], _, _, h => nomatch h
 | (m, u) :: l, n, v, h => by
  have hn := (find_dropE h).1
  simp only [dropE] at h
  cases hc : D.contains m with
  | true =>
   rw [hc, cond_true] at h
   by_cases hm : m = n
   ·subst hm; exact absurd (List.contains_iff_mem.1 hc) hn
   ·rw [find_cons_other _ _ hm]; exact find_dropE_eq h
  | false =>
   rw [hc, cond_false] at h
   by_cases hm : m = n
   ·subst hm; rw [find_cons_same] at h ⊢; exact h
   ·rw [find_cons_other _ _ hm] at h ⊢; exact find_dropE_eq h
theorem about_none {o : Oper} (h : inert o = true) (w : World) (ρ : Operand → Value) : o.about P w ρ = none := by
 unfold inert at h
 simp only [Bool.and_eq_true] at h
 have h2 := h.2
 unfold Oper.about
 split at h2 <;> first | (cases h2; done) | (rename_i hop; rw [hop])
theorem about_load {o : Oper} (h : isLoad o = true) (w : World) (ρ : Operand → Value) : o.about P w ρ = none := by
 unfold isLoad at h
 simp only [Bool.and_eq_true] at h
 have h2 := h.2
 unfold Oper.about
 split at h2 <;> first | (cases h2; done) | (rename_i hop; rw [hop])
theorem load_guard {o : Oper} (h : isLoad o = true) : o.guard = none := by
 unfold isLoad at h
 simp only [Bool.and_eq_true, Option.isNone_iff_eq_none] at h
 exact h.1
theorem inert_ok (hC : CfgOK E.C P) {g : Gh} {s : St} {tm : Array Value} {T : List (Array Value)} {w : World} (hs : StR g s tm T w) (hG : GlobOK E.C g.fz) {base : Nat} {o : Oper} (hin : inert o = true) {v : AV} (h : execA E.C base o s = some (true, v, .none)) (d : List Deferred) :
  ∃ z, (∀ w1, (execOp (Act.eval ⟨tm, d⟩) o).run P w1 = .ok (.value z) w1) ∧ VR g v z := by
 unfold inert at hin
 simp only [Bool.and_eq_true] at hin
 have h2 := hin.2
 unfold execA at h
 split at h2
 ·rename_i x hop
  simp only [hop] at h
  split at h
  ·rename_i v' hv
   simp only [ok, Option.some.injEq, Prod.mk.injEq, true_and, and_true] at h
   subst h
   exact ⟨_, fun w1 => by simp only [execOp, hop]; rfl, ev_ok hs hG hv d⟩
  ·cases h
 ·rename_i x hop
  simp only [hop] at h
  split at h
  ·rename_i v' hv
   simp only [ok, Option.some.injEq, Prod.mk.injEq, true_and, and_true] at h
   subst h
   exact ⟨_, fun w1 => by simp only [execOp, hop]; rfl, ev_ok hs hG hv d⟩
  ·cases h
 ·rename_i x hop
  have main : ∀ v', ev E.C s.env x = some v' → v'.isPtr = true → ∃ z, (∀ w1, (execOp (Act.eval ⟨tm, d⟩) o).run P w1 = .ok (.value z) w1) ∧ VR g v' z := by
   intro v' hv hp
   have h1 := ev_ok hs hG hv d
   obtain ⟨ad, h3⟩ := ptr_form h1 hp
   rw [h3] at h1
   exact ⟨_, fun w1 => by simp only [execOp, hop, h3]; rfl, h1⟩
  simp only [hop] at h
  split at h
  ·rename_i hv
   simp only [ok, Option.some.injEq, Prod.mk.injEq, true_and, and_true] at h
   subst h
   exact main _ hv rfl
  ·rename_i hv
   simp only [ok, Option.some.injEq, Prod.mk.injEq, true_and, and_true] at h
   subst h
   exact main _ hv rfl
  ·rename_i hv
   simp only [ok, Option.some.injEq, Prod.mk.injEq, true_and, and_true] at h
   subst h
   exact main _ hv rfl
  ·cases h
 ·rename_i t x f hop
  simp only [hop] at h
  split at h
  ·rename_i a ha
   have hv := ev_ok hs hG ha d
   obtain ⟨_, z, _, k2⟩ := fieldAddrV_ok (w := w) hC h hv
   have key : ∃ z, (∀ w1, (Instr.fieldAt t (Act.eval ⟨tm, d⟩ x) f).run P w1 = .ok z w1) ∧ VR g v z := by
    have hz : ∀ w1, ∃ z, (Instr.fieldAt t (Act.eval ⟨tm, d⟩ x) f).run P w1 = .ok z w1 ∧ VR g v z := fun w1 => (fieldAddrV_ok (w := w1) hC h hv).2
    unfold fieldAddrV at h
    split at h
    ·rename_i o' ft hf
     unfold fieldOff at hf
     split at hf
     ·rename_i fs hu
      split at h
      ·cases h
      ·rename_i hsz
       have hform : ∃ blk off, Act.eval ⟨tm, d⟩ x = .pointer (some ⟨blk, off, none⟩) := by
        split at h
        ·obtain ⟨blk, off, cs', e1, _⟩ := hv
         simp only [List.cons.injEq, and_true] at e1
         exact ⟨_, _, e1⟩
        ·obtain ⟨gb, blk, _, _, _, _, e1⟩ := hv
         simp only [List.cons.injEq, and_true] at e1
         exact ⟨_, _, e1⟩
        ·obtain ⟨gb, blk, _, _, _, _, e1⟩ := hv
         simp only [List.cons.injEq, and_true] at e1
         exact ⟨_, _, e1⟩
        ·obtain ⟨gb, blk, _, _, _, _, _, e1⟩ := hv
         simp only [List.cons.injEq, and_true] at e1
         exact ⟨_, _, e1⟩
        ·cases h
       obtain ⟨blk, off, e⟩ := hform
       obtain ⟨z, hz1, hz2⟩ := hz w
       refine ⟨z, fun w1 => ?_, hz2⟩
       rw [e] at hz1 ⊢
       rw [run_fieldAt hC hu hf hsz] at hz1 ⊢
       cases hz1
       rfl
     ·cases hf
    ·cases h
   obtain ⟨z, hz1, hz2⟩ := key
   exact ⟨z, fun w1 => by simp only [execOp, hop, Sem.run_bind, hz1]; rfl, hz2⟩
  ·cases h
 ·rename_i x i hop
  simp only [hop] at h
  split at h
  ·rename_i vs hv
   split at h
   ·rename_i u hu
    simp only [ok, Option.some.injEq, Prod.mk.injEq, true_and, and_true] at h
    subst h
    obtain ⟨arr, e1, e2⟩ := ev_ok hs hG hv d
    have get : ∀ {vs : List AV} {cs : List Value} {i : Nat} {u : AV}, TsR g vs cs → vs[i]? = some u → ∃ c, cs[i]? = some c ∧ VR1 g u c := by
     intro vs
     induction vs with
     | nil => intro cs i u _ h; simp at h
     | cons a vs ih =>
      intro cs i u ht h
      cases cs with
      | nil => exact ht.elim
      | cons c cs =>
       cases i with
       | zero => simp only [List.getElem?_cons_zero, Option.some.injEq] at h; subst h; exact ⟨c, rfl, ht.1⟩
       | succ i =>
        obtain ⟨c', k1, k2⟩ := ih (i := i) ht.2 (by simpa using h)
        exact ⟨c', by simpa using k1, k2⟩
    obtain ⟨c, k1, k2⟩ := get e2 hu
    refine ⟨c, fun w1 => ?_, k2.vr'⟩
    have : arr[i]? = some c := by rw [← Array.getElem?_toList]; exact k1
    simp only [execOp, hop, e1, Instr.extract, this]
    rfl
   ·cases h
  ·cases h
 ·rename_i t x i hop
  simp only [hop] at h
  split at h
  ·rename_i a bb ha hb
   obtain ⟨_, z, h1, h2⟩ := indexAddrV_ok hC hs h (ev_ok hs hG ha d) (ev_ok hs hG hb d)
   exact ⟨z, fun w1 => by simp only [execOp, hop, Sem.run_bind, h1 w1]; rfl, h2⟩
  ·cases h
 ·cases h2
theorem scal_eq {g : Gh} {v : AV} (hr : v.scal = true) {a b : Value} (ha : VR g v a) (hb : VR g v b) : a = b := by
 unfold AV.scal at hr
 split at hr
 ·rename_i k x
  have h1 : [a] = [Value.int k x] := ha
  have h2 : [b] = [Value.int k x] := hb
  simp only [List.cons.injEq, and_true] at h1 h2
  rw [h1, h2]
 ·rename_i x
  have h1 : [a] = [Value.bool x] := ha
  have h2 : [b] = [Value.bool x] := hb
  simp only [List.cons.injEq, and_true] at h1 h2
  rw [h1, h2]
 ·rename_i x
  have h1 : [a] = [Value.string x] := ha
  have h2 : [b] = [Value.string x] := hb
  simp only [List.cons.injEq, and_true] at h1 h2
  rw [h1, h2]
 ·cases hr
theorem pure_ok (hC : CfgOK E.C P) {g : Gh} {s : St} {tm : Array Value} {T : List (Array Value)} {w : World} (hs : StR g s tm T w) (hG : GlobOK E.C g.fz) {base : Nat} {o : Oper} (hin : isPure o = true) {v : AV} (hv : v.scal = true) (h : execA E.C base o s = some (true, v, .none)) (d : List Deferred) :
  ∃ z, (∀ w1, (execOp (Act.eval ⟨tm, d⟩) o).run P w1 = .ok (.value z) w1) ∧ VR g v z := by
 have key : ∀ (f : World → Prop) (R : Value → World → Prop), (∀ w1, ∃ z, R z w1 ∧ VR g v z) → ∃ z, (∀ w1, R z w1) ∧ VR g v z := by
  intro f R hall
  obtain ⟨z, _, hz⟩ := hall w
  refine ⟨z, fun w1 => ?_, hz⟩
  obtain ⟨z1, h1, h2⟩ := hall w1
  rw [scal_eq hv hz h2]
  exact h1
 unfold isPure at hin
 simp only [Bool.and_eq_true] at hin
 have h2 := hin.2
 split at h2
 ·cases h2
 ·rename_i op t x y yt hne hop
  unfold execA at h
  simp only [hop] at h
  refine key (fun _ => True) (fun z w1 => (execOp (Act.eval ⟨tm, d⟩) o).run P w1 = .ok (.value z) w1) fun w1 => ?_
  have hh : (match ev E.C s.env x, ev E.C s.env y with | some a, some b => binV E.C op t a b | _, _ => none) = some (true, v, .none) := by
   clear h2 hop
   cases y with
   | const c => cases c <;> first | exact h | exact (hne rfl).elim
   | _ => exact h
  split at hh
  ·rename_i a b ha hb
   obtain ⟨_, z, k1, k2⟩ := binV_ok hC hh (w := w1) (ev_ok hs hG ha d) (ev_ok hs hG hb d) x y
   exact ⟨z, by simp only [execOp, hop]; rw [Sem.run_bind, k1]; rfl, k2⟩
  ·cases hh
 ·rename_i op t x hop
  unfold execA at h
  simp only [hop] at h
  split at h
  ·rename_i a ha
   refine key (fun _ => True) (fun z w1 => (execOp (Act.eval ⟨tm, d⟩) o).run P w1 = .ok (.value z) w1) fun w1 => ?_
   obtain ⟨_, z, k1, k2⟩ := unV_ok (w := w1) h (ev_ok hs hG ha d)
   exact ⟨z, by simp only [execOp, hop]; rw [Sem.run_bind, k1]; rfl, k2⟩
  ·cases h
 ·cases h2
theorem about_pure {o : Oper} (h : isPure o = true) (w : World) (ρ : Operand → Value) : o.about P w ρ = none := by
 unfold isPure at h
 simp only [Bool.and_eq_true] at h
 have h2 := h.2
 unfold Oper.about
 split at h2 <;> first | (cases h2; done) | (rename_i hop; rw [hop])
theorem soft_ok (hC : CfgOK E.C P) {g : Gh} {s : St} {tm : Array Value} {T : List (Array Value)} {w : World} (hs : StR g s tm T w) (hG : GlobOK E.C g.fz) {base : Nat} {o : Oper} (hin : softNow E s o = true) {v : AV} (hpv : (!isPure o || v.scal) = true) (h : execA E.C base o s = some (true, v, .none)) (d : List Deferred) :
  ∃ z blk off cs, Fz g.fz blk off cs ∧ (∀ w1, CellsAt w1 blk off cs → (execOp (Act.eval ⟨tm, d⟩) o).run P w1 = .ok (.value z) w1) ∧ VR g v z ∧ o.guard = none ∧ (∀ w1 ρ, o.about P w1 ρ = none) ∧ soft o = true := by
 unfold softNow at hin
 cases hi : inert o with
 | true =>
  obtain ⟨z, h1, h2⟩ := inert_ok hC hs hG hi h d
  refine ⟨z, 0, 0, [], fun j v e => by simp at e, fun w1 _ => h1 w1, h2, ?_, fun w1 ρ => about_none hi w1 ρ, by simp [soft, hi]⟩
  unfold inert at hi
  simp only [Bool.and_eq_true, Option.isNone_iff_eq_none] at hi
  exact hi.1
 | false =>
  cases hpu : isPure o with
  | true =>
   rw [hpu, Bool.not_true, Bool.false_or] at hpv
   obtain ⟨z, h1, h2⟩ := pure_ok hC hs hG hpu hpv h d
   refine ⟨z, 0, 0, [], fun j v e => by simp at e, fun w1 _ => h1 w1, h2, ?_, fun w1 ρ => about_pure hpu w1 ρ, by simp [soft, hpu]⟩
   unfold isPure at hpu
   simp only [Bool.and_eq_true, Option.isNone_iff_eq_none] at hpu
   exact hpu.1
  | false =>
  rw [hi, hpu, Bool.or_false, Bool.false_or, Bool.and_eq_true] at hin
  obtain ⟨hl, hp⟩ := hin
  have hgd := load_guard hl
  have hab : ∀ (w1 : World) (ρ : Operand → Value), o.about P w1 ρ = none := fun w1 ρ => about_load hl w1 ρ
  unfold execA at h
  split at hp
  ·rename_i t a hop
   simp only [hop] at h
   split at hp
   ·rename_i gs hev
    simp only [hev, loadV] at h
    have ha : GR g (.eptr gs) [Act.eval ⟨tm, d⟩ a] := ev_ok hs hG hev d
    obtain ⟨blk, off, cs', e1, h1, h2⟩ := ha
    simp only [List.cons.injEq, and_true] at e1
    obtain ⟨_, x, k1, k2⟩ := loadAt_all hC h (blk := blk) (off := off) h1.gsR
    refine ⟨x, blk, off, cs', h2, fun w1 hw1 => ?_, k2.vr', hgd, hab, by simp [soft, hl]⟩
    have hr : (Instr.loadAt t (Act.eval ⟨tm, d⟩ a)).run P w1 = .ok x w1 := by
     rw [e1]
     simp only [Instr.loadAt, Instr.sureAddr, Sem.run_bind, Sem.run_pure, Result.andThen_ok]
     exact k1 w1 hw1
    simp only [execOp, hop, Sem.run_bind, hr]
    rfl
   ·cases hp
  ·cases hp
def Off (D : List Nat) (a b : Array Value) : Prop := a.size = b.size ∧ ∀ t, t ∉ D → a.getD t undef = b.getD t undef
theorem Off.refl (D : List Nat) (a : Array Value) : Off D a a := ⟨rfl, fun _ _ => rfl⟩
theorem Off.put {D : List Nat} {a b : Array Value} (h : Off D a b) {t : Nat} (ht : t ∈ D) (z : Value) : Off D a (b.setIfInBounds t z) :=
 ⟨by rw [Array.size_setIfInBounds]; exact h.1, fun u hu => by
  rw [h.2 u hu]
  have hne : t ≠ u := fun e => hu (e ▸ ht)
  rw [Array.getD_eq_getD_getElem?, Array.getD_eq_getD_getElem?, Array.getElem?_setIfInBounds_ne hne]⟩
def QOff (D : List Nat) (Q : Exit → Act → World → Prop) : Exit → Act → World → Prop
 | .panic c, a, w => ∀ tm', Off D tm' a.tmps → Q (.panic c) ⟨tm', a.defers⟩ w
 | e, a, w => Q e a w
theorem QOff.imp {D : List Nat} {Q : Exit → Act → World → Prop} {e : Exit} {a : Act} {w : World} (h : QOff D Q e a w) : Q e a w := by
 cases e <;> first | exact h | exact h a.tmps (Off.refl _ _)
theorem depsOk_get {ops : Array Oper} : ∀ {l : List Oper} {i : Nat}, depsOk i l = true → ∀ k x, l[k]? = some x → ∀ j ∈ V.deps x, j < i + k
 | [], _, _, k, x, h => by simp at h
 | z :: l, i, h, k, x, hx => by
  simp only [depsOk, Bool.and_eq_true] at h
  cases k with
  | zero =>
   simp only [List.getElem?_cons_zero, Option.some.injEq] at hx
   subst hx
   exact fun j hj => Nat.le_of_ble_eq_true (List.all_eq_true.1 h.1 j hj)
  | succ k =>
   intro j hj
   have := depsOk_get (ops := ops) h.2 k x (by simpa using hx) j hj
   omega
structure Hd where
 dep : Nat → Prop
 S : World → Prop
def wpAnyX (F : Fence) (n : Nat) (P : Program) (ops : Array Oper) (Q : Exit → Act → World → Prop) (hs : List Hd) : Nat → Array Bool → Act → World → Prop
 | 0, listed, a, w => Region.ready .any ops listed = [] ∧ Q .normal a w
 | fuel + 1, listed, a, w =>
  (Region.ready .any ops listed = [] → Q .normal a w) ∧
  ∀ i ∈ Region.ready .any ops listed, wpOpIn F n P ops Q i (fun a' w' => (∀ h ∈ hs, (∀ k, h.dep k → (listed.setIfInBounds i true).getD k true = false) → h.S w') ∧ wpAnyX F n P ops Q hs fuel (listed.setIfInBounds i true) a' w') a w
theorem wpAnyX.plain {F : Fence} {n : Nat} {ops : Array Oper} {Q : Exit → Act → World → Prop} : ∀ (fuel : Nat) {listed : Array Bool} {a : Act} {w : World}, wpAnyX F n P ops Q [] fuel listed a w → wpAnyIn F n P .any ops Q fuel listed a w
 | 0, _, _, _, h => h
 | fuel + 1, _, _, _, h => ⟨h.1, fun i hi => wpOpIn_mono (fun _ _ h' => wpAnyX.plain fuel h'.2) (h.2 i hi)⟩
structure YX (P : Program) (ops : Array Oper) (S : World → Prop) (o : Oper) (v : Value) (a : Act) : Prop where
 want : Region.wanted o (yielded ops a.tmps) = true
 run : ∀ w, S w → (execOp a.eval o).run P w = .ok (.value v) w
 about : ∀ w, o.about P w a.eval = none
theorem YX.put {ops : Array Oper} {S : World → Prop} {o : Oper} {v : Value} {a : Act} (h : YX P ops S o v a) (hsel : ∀ cs b, o.op ≠ .select cs b) {dst : Option Tmp} {u : Value} (hd : ∀ d, dst = some d → d ∉ o.looksAt ops) : YX P ops S o v (a.put dst u) :=
 ⟨(wanted_put o a dst u hd).trans h.want, fun w hw => by rw [execOp_put o hsel a dst u hd]; exact h.run w hw, fun w => (about_put o w a dst u hd).trans (h.about w)⟩
theorem YX.defer {ops : Array Oper} {S : World → Prop} {o : Oper} {v : Value} {a : Act} (h : YX P ops S o v a) (d : List Deferred) : YX P ops S o v { a with defers := d } := ⟨h.want, h.run, h.about⟩
theorem YX.wpOpIn {F : Fence} {n : Nat} {ops : Array Oper} {S : World → Prop} {Q : Exit → Act → World → Prop} {i : Nat} {o : Oper} {v : Value} {a : Act} (hro : F.round = none) (hi : ops[i]? = some o) (hy : YX P ops S o v a) {K : Act → World → Prop} {w : World} (hw : S w) (h : K (a.put o.dst v) w) : wpOpIn F n P ops Q i K a w := by
 unfold Go.wpOpIn
 simp only [hi, hy.want, if_true, Oper.wpIn, hro, Oper.semAt_none, hy.run w hw, Oper.uponIn]
 exact ⟨fun f hf => (by rw [hy.about w] at hf; cases hf), h⟩
theorem wpOpIn_putX {F : Fence} {n : Nat} {ops : Array Oper} {S : World → Prop} {Q : Exit → Act → World → Prop} {j : Nat} {oi oj : Oper} {v : Value} (hro : F.round = none) (hj : ops[j]? = some oj) (hap : oi.apart ops oj = true)
  (hsi : ∀ cs b, oi.op ≠ .select cs b) (hsj : ∀ cs b, oj.op ≠ .select cs b)
  (hQ : ∀ c a w, Q (.panic c) (a.put oi.dst v) w → Q (.panic c) a w) {K : Act → World → Prop} {a : Act} {w : World}
  (hy : YX P ops S oi v a) (h : wpOpIn F n P ops Q j K (a.put oi.dst v) w) :
  wpOpIn F n P ops Q j (fun a' w' => YX P ops S oi v a' ∧ K (a'.put oi.dst v) w') a w := by
 obtain ⟨h1, h2, h3⟩ := Oper.apart_spec hap
 have keep : ∀ u, YX P ops S oi v (a.put oj.dst u) := fun u => hy.put hsi h3
 unfold wpOpIn at *
 simp only [hj] at *
 rw [wanted_put oj a oi.dst v h1, about_put oj w a oi.dst v h1] at h
 split
 ·rename_i hw
  simp only [hw, if_true] at h
  unfold Oper.wpIn at *
  rw [about_put oj w a oi.dst v h1] at h
  refine ⟨h.1, ?_⟩
  have h := h.2
  rw [hro, Oper.semAt_none, execOp_put oj hsj a oi.dst v h1] at h
  rw [hro, Oper.semAt_none]
  generalize (execOp a.eval oj).run P w = r at *
  cases r with
  | ok x w' =>
   cases x <;> simp only [Oper.uponIn] at h ⊢
   case value u => exact ⟨keep u, by rw [← Act.put_comm a v u h2]; exact h⟩
   case skip => exact ⟨keep _, by rw [← Act.put_comm a v undef h2]; exact h⟩
   case defer d =>
    refine ⟨(hy.defer _).put hsi h3, ?_⟩
    rw [← Act.put_comm _ v undef h2, ← Act.put_defers]
    exact h
   case enter f args =>
    refine ⟨h.1, CallsIn.mono h.2 fun e w'' he => ?_⟩
    cases e with
    | returned u => exact ⟨keep u, by rw [← Act.put_comm a v u h2]; exact he⟩
    | panicked c => exact hQ _ _ _ he
    | outgrown => exact he
   case row row args => exact ⟨h.1, RowsIn.mono h.2 fun u w'' he => ⟨keep u, by rw [← Act.put_comm a v u h2]; exact he⟩⟩
   case round l f tmps assign body =>
    refine ⟨h.1, RoundIn.mono h.2 fun e w'' he => ?_⟩
    cases e with
    | returned u => exact ⟨keep u, by rw [← Act.put_comm a v u h2]; exact he⟩
    | panicked c => exact hQ _ _ _ he
    | outgrown => exact he
  | halt x w' =>
   cases x <;> simp only [Oper.uponIn] at h ⊢
   case panic u => exact hQ _ _ _ h
 ·rename_i hw
  simp only [hw] at h
  exact ⟨h.1, keep _, by rw [← Act.put_comm a v undef h2]; exact h.2⟩
theorem getD_setT {listed : Array Bool} {i k : Nat} (h : (listed.setIfInBounds i true).getD k true = false) : listed.getD k true = false ∧ k ≠ i := by
 by_cases hik : i = k
 ·subst hik
  rw [Array.getD_eq_getD_getElem?] at h
  by_cases hl : i < listed.size
  ·rw [Array.getElem?_setIfInBounds_self_of_lt hl] at h; cases h
  ·rw [Array.getElem?_eq_none (by simpa using hl)] at h; cases h
 ·exact ⟨by rwa [getD_set_ne true hik] at h, Ne.symm hik⟩
theorem wpAnyX.tail {F : Fence} {n : Nat} {ops : Array Oper} {Q : Exit → Act → World → Prop} {hs : List Hd} {h0 : Hd} : ∀ (fuel : Nat) {listed : Array Bool} {a : Act} {w : World}, wpAnyX F n P ops Q (h0 :: hs) fuel listed a w → wpAnyX F n P ops Q hs fuel listed a w
 | 0, _, _, _, h => h
 | fuel + 1, _, _, _, h => ⟨h.1, fun i hi => wpOpIn_mono (fun _ _ h' => ⟨fun x hx => h'.1 x (List.mem_cons_of_mem _ hx), wpAnyX.tail fuel h'.2⟩) (h.2 i hi)⟩
def Closed (ops : Array Oper) (listed : Array Bool) : Prop := ∀ k o, ops[k]? = some o → Done listed k → ∀ d ∈ deps o, Done listed d
theorem Closed.set {ops : Array Oper} {listed : Array Bool} (h : Closed ops listed) {j : Nat} (hj : j ∈ Region.ready .any ops listed) : Closed ops (listed.setIfInBounds j true) := by
 obtain ⟨hj0, o, hoj, hdep⟩ := mem_ready.1 hj
 obtain ⟨hjs, hnd⟩ := undone hj0
 intro k o' hk hd d hdd
 rw [done_set hjs] at hd ⊢
 rcases hd with rfl | hd
 ·rw [hoj] at hk
  cases hk
  obtain ⟨e, he, rfl⟩ := List.mem_map.1 hdd
  obtain ⟨he1, he2⟩ := List.mem_filter.1 he
  exact .inr (hdep e (by simpa using he1) he2)
 ·exact .inr (h k o' hk hd d hdd)
def Hd.live (h : Hd) (listed : Array Bool) : Prop := ∀ k, h.dep k → listed.getD k true = false
theorem Hd.live_set {h : Hd} {listed : Array Bool} {i : Nat} (hl : h.live (listed.setIfInBounds i true)) : h.live listed := fun k hk => (getD_setT (hl k hk)).1
theorem wpAnyX_first {F : Fence} {n : Nat} {ops : Array Oper} {Q : Exit → Act → World → Prop} {hs : List Hd} {h0 : Hd} {i : Nat} {oi : Oper} {v : Value} (hro : F.round = none) (hi : ops[i]? = some oi) (hsel : ∀ (j : Nat) (o : Oper) cs b, ops[j]? = some o → o.op ≠ .select cs b)
  (hQ : ∀ c a w, Q (.panic c) (a.put oi.dst v) w → Q (.panic c) a w) (hnd : ∀ h ∈ hs, ¬ h.dep i) (hni : ¬ h0.dep i)
  (hdep : ∀ listed : Array Bool, listed.size = ops.size → listed.getD i true = false → Closed ops listed → h0.live listed) :
  ∀ (fuel : Nat) (listed : Array Bool) (a : Act) (w : World),
   listed.size = ops.size → Closed ops listed →
   (∀ j oj, ops[j]? = some oj → j ≠ i → listed.getD j true = false → (∀ e ∈ oj.after, Region.binds .any e = true → e.on ≠ i) → oi.apart ops oj = true) →
   i ∈ Region.ready .any ops listed → YX P ops h0.S oi v a → h0.S w → (∀ h ∈ hs, h.live listed → h.S w) →
   wpAnyX F n P ops Q (h0 :: hs) fuel (listed.setIfInBounds i true) (a.put oi.dst v) w → wpAnyX F n P ops Q hs (fuel + 1) listed a w := by
 intro fuel
 induction fuel with
 | zero =>
  intro listed a w hsz hcl _ hr hy hS hS' H
  refine ⟨fun h => (by rw [h] at hr; cases hr), fun j hj => ?_⟩
  by_cases hji : j = i
  ·subst hji
   exact hy.wpOpIn hro hi hS ⟨fun h hh hl => hS' h hh (Hd.live_set hl), H.tail⟩
  ·have := ready_mono hj hji
   rw [H.1] at this
   cases this
 | succ fuel ih =>
  intro listed a w hsz hcl hfree hr hy hS hS' H
  refine ⟨fun h => (by rw [h] at hr; cases hr), fun j hj => ?_⟩
  by_cases hji : j = i
  ·subst hji
   exact hy.wpOpIn hro hi hS ⟨fun h hh hl => hS' h hh (Hd.live_set hl), H.tail⟩
  ·have h1 := H.2 j (ready_mono hj hji)
   obtain ⟨hjun, oj, hoj, hall⟩ := mem_ready.1 hj
   have hnot : ∀ e ∈ oj.after, Region.binds .any e = true → e.on ≠ i := fun e he hb heq => by
    have h1 := hall e he hb
    have h0 := (mem_ready.1 hr).1
    rw [heq] at h1
    rcases Nat.lt_or_ge i listed.size with h' | h'
    ·simp [h'] at h0 h1; rw [h0] at h1; cases h1
    ·simp [Array.getElem?_eq_none h'] at h1
   have h2 := wpOpIn_putX hro hoj (hfree j oj hoj hji hjun hnot) (fun cs b => hsel i oi cs b hi) (fun cs b => hsel j oj cs b hoj) hQ hy h1
   have hr' := ready_mono hr (Ne.symm hji)
   have hcl' := hcl.set hj
   have hsz' : (listed.setIfInBounds j true).size = ops.size := by simp [hsz]
   have two : ∀ h : Hd, ¬ h.dep i → h.live (listed.setIfInBounds j true) → h.live ((listed.setIfInBounds i true).setIfInBounds j true) := by
    intro h hi' hl k hk
    have hki : i ≠ k := fun e => hi' (e ▸ hk)
    rw [Array.setIfInBounds_comm _ _ (Ne.symm hji), getD_set_ne true hki]
    exact hl k hk
   refine wpOpIn_mono (fun a' w' h3 => ⟨fun h hh hl => h3.2.1 h (List.mem_cons_of_mem _ hh) (two h (hnd h hh) hl), ?_⟩) h2
   refine ih (listed.setIfInBounds j true) a' w' hsz' hcl' (fun k ok hok hki hun => hfree k ok hok hki (getD_setT hun).1) hr' h3.1 ?_ ?_ ?_
   ·exact h3.2.1 h0 (List.mem_cons_self ..) (two h0 hni (hdep _ hsz' (mem_ready.1 hr').1 hcl'))
   ·exact fun h hh hl => h3.2.1 h (List.mem_cons_of_mem _ hh) (two h (hnd h hh) hl)
   ·rw [Array.setIfInBounds_comm _ _ hji]
    exact h3.2.2
theorem rigid_eq {g : Gh} {v : AV} (hr : v.rigid = true) {a b : Value} (ha : VR g v a) (hb : VR g v b) : a = b := by
 have key : ∀ {v : AV}, v.rigid = true → ∀ {a b : Value}, GR g v [a] → GR g v [b] → a = b := by
  intro v hr a b ha hb
  unfold AV.rigid at hr
  split at hr
  ·rename_i k
   obtain ⟨gb, x, e1, _, e2, e3⟩ := ha
   obtain ⟨gb', x', e1', _, e2', e3'⟩ := hb
   rw [e1] at e1'
   cases e1'
   simp only [List.cons.injEq, and_true] at e2 e2'
   subst e2 e2'
   unfold WinR at e3 e3'
   cases hb : gb.blk with
   | none => rw [hb] at e3 e3'; exact e3.1.trans e3'.1.symm
   | some blk => rw [hb] at e3 e3'; exact e3.trans e3'.symm
  all_goals first
   | (cases hr; done)
   | (simp only [GR, List.cons.injEq, and_true] at ha hb; exact ha.trans hb.symm)
   | skip
  ·obtain ⟨gb, r, e1, _, e2, e3⟩ := ha
   obtain ⟨gb', r', e1', _, e2', e3'⟩ := hb
   rw [e1] at e1'
   cases e1'
   rw [e2] at e2'
   cases e2'
   simp only [List.cons.injEq, and_true] at e3 e3'
   exact e3.trans e3'.symm
  ·obtain ⟨gb, r, e1, _, e2, _, e3⟩ := ha
   obtain ⟨gb', r', e1', _, e2', _, e3'⟩ := hb
   rw [e1] at e1'
   cases e1'
   rw [e2] at e2'
   cases e2'
   simp only [List.cons.injEq, and_true] at e3 e3'
   exact e3.trans e3'.symm
 have down : ∀ {v : AV}, v.rigid = true → ∀ {a : Value}, VR g v a → GR g v [a] := by
  intro v hr a ha
  unfold AV.rigid at hr
  split at hr <;> first
   | (cases hr; done)
   | exact ha
 exact key hr (down hr ha) (down hr hb)
theorem load_now (hC : CfgOK E.C P) {g : Gh} {s : St} {tm : Array Value} {T : List (Array Value)} {w : World} (hs : StR g s tm T w) (hG : GlobOK E.C g.fz) {base : Nat} {o : Oper} (hin : isLoad o = true) {v : AV} (h : execA E.C base o s = some (true, v, .none)) (d : List Deferred) :
  ∃ z, (execOp (Act.eval ⟨tm, d⟩) o).run P w = .ok (.value z) w ∧ VR g v z := by
 unfold isLoad at hin
 simp only [Bool.and_eq_true] at hin
 have h2 := hin.2
 unfold execA at h
 split at h2
 ·rename_i t x hop
  simp only [hop] at h
  split at h
  ·rename_i a ha
   obtain ⟨_, y, h3, h4⟩ := loadV_ok hC hs h (ev_ok hs hG ha d)
   exact ⟨y, by simp only [execOp, hop, Sem.run_bind, h3]; rfl, h4.vr'⟩
  ·cases h
 ·cases h2
theorem load_sel {o : Oper} (h : isLoad o = true) : ∀ cs b, o.op ≠ .select cs b := by
 intro cs b hb
 unfold isLoad at h
 rw [hb] at h
 simp at h
def hardFrom (ops : Array Oper) (p k : Nat) : Prop := ∃ ok, ops[k]? = some ok ∧ soft ok = false ∧ ahead (masks ops.toList []) p k = true
structure Took (P : Program) (ops : Array Oper) (ds : List Deferred) (tm : Array Value) (h : Hd) (p : Nat) : Prop where
 dep : h.dep = hardFrom ops p
 at_ : ∃ o d, ops[p]? = some o ∧ isLoad o = true ∧ o.dst = some d ∧ d < tm.size ∧ (∀ w, h.S w ↔ (execOp (Act.eval ⟨tm, ds⟩) o).run P w = .ok (.value (tm.getD d undef)) w)
theorem contains_false {l : List Nat} {d : Nat} (h : l.contains d = false) : d ∉ l := fun hm => by rw [List.contains_iff_mem.2 hm] at h; cases h
theorem Took.put {ops : Array Oper} {ds : List Deferred} {tm : Array Value} {h : Hd} {p : Nat} (hk : Took P ops ds tm h p) {dst : Option Nat} (hkp : keeps ops dst p = true) (z : Value) : Took P ops ds (Act.put ⟨tm, ds⟩ dst z).tmps h p := by
 obtain ⟨o, d, h1, h2, h3, h4, h5⟩ := hk.at_
 refine ⟨hk.dep, o, d, h1, h2, h3, by rw [put_size]; exact h4, fun w => ?_⟩
 unfold keeps at hkp
 rw [h1] at hkp
 have e1 : execOp (Act.eval ⟨(Act.put ⟨tm, ds⟩ dst z).tmps, ds⟩) o = execOp (Act.eval ⟨tm, ds⟩) o := by
  rw [← put_defers]
  refine execOp_put (ops := ops) o (load_sel h2) _ dst z (fun u hu => ?_)
  rw [hu] at hkp
  simp only [Bool.and_eq_true, Bool.not_eq_true'] at hkp
  exact contains_false hkp.1
 have e2 : (Act.put ⟨tm, ds⟩ dst z).tmps.getD d undef = tm.getD d undef := by
  cases dst with
  | none => rfl
  | some u =>
   have hne : u ≠ d := by
    intro e
    simp only [h3, Bool.and_eq_true, Bool.not_eq_true'] at hkp
    have := hkp.2
    rw [e, Nat.beq_refl] at this
    cases this
   show (tm.setIfInBounds u z).getD d undef = _
   rw [Array.getD_eq_getD_getElem?, Array.getD_eq_getD_getElem?, Array.getElem?_setIfInBounds_ne hne]
 rw [e1, e2]
 exact h5 w
def Heads (P : Program) (g : Gh) (ops : Array Oper) (ds : List Deferred) (tm : Array Value) (listed : Array Bool) (held : List Nat) (hs : List Hd) : Prop :=
 ∀ h ∈ hs, (∀ k, h.dep k → ∃ ok, ops[k]? = some ok ∧ soft ok = false) ∧
  ((∃ p ∈ held, Took P ops ds tm h p) ∨ (∃ blk off cs, Fz g.fz blk off cs ∧ ∀ w, CellsAt w blk off cs → h.S w) ∨ (∃ k, h.dep k ∧ listed.getD k true = true))
theorem Heads.mono {g g' : Gh} {ops : Array Oper} {ds : List Deferred} {tm : Array Value} {listed : Array Bool} {held : List Nat} {hs : List Hd} (H : Heads P g ops ds tm listed held hs) (hf : ∀ b o v, g.fz b o = some v → g'.fz b o = some v) : Heads P g' ops ds tm listed held hs := by
 intro h hm
 obtain ⟨h1, h2⟩ := H h hm
 refine ⟨h1, ?_⟩
 rcases h2 with h2 | ⟨blk, off, cs, h3, h4⟩ | h2
 ·exact .inl h2
 ·exact .inr (.inl ⟨blk, off, cs, h3.mono hf, h4⟩)
 ·exact .inr (.inr h2)
theorem getD_setTrue {listed : Array Bool} {i k : Nat} (h : listed.getD k true = true) : (listed.setIfInBounds i true).getD k true = true := by
 rw [← Bool.not_eq_false]
 intro h'
 rw [(getD_setT h').1] at h
 cases h
theorem getD_setSelf {listed : Array Bool} {i : Nat} : (listed.setIfInBounds i true).getD i true = true := by
 rw [← Bool.not_eq_false]
 intro h'
 exact (getD_setT h').2 rfl
theorem Heads.put {g : Gh} {ops : Array Oper} {ds : List Deferred} {tm : Array Value} {listed : Array Bool} {held held' : List Nat} {hs : List Hd} (H : Heads P g ops ds tm listed held hs) (i : Nat) {dst : Option Nat} (hk : held.all (keeps ops dst) = true) (z : Value)
  (hh : ∀ p ∈ held, p ∈ held' ∨ hardFrom ops p i) : Heads P g ops ds (Act.put ⟨tm, ds⟩ dst z).tmps (listed.setIfInBounds i true) held' hs := by
 intro h hm
 obtain ⟨h1, h2⟩ := H h hm
 refine ⟨h1, ?_⟩
 rcases h2 with ⟨p, hp, ht⟩ | h2 | ⟨k, hk, hl⟩
 ·rcases hh p hp with h3 | h3
  ·exact .inl ⟨p, h3, ht.put (List.all_eq_true.1 hk p hp) z⟩
  ·exact .inr (.inr ⟨i, by rw [ht.dep]; exact h3, getD_setSelf⟩)
 ·exact .inr (.inl h2)
 ·exact .inr (.inr ⟨k, hk, getD_setTrue hl⟩)
theorem heads_live (hE : EnvOK P E) {ops : Array Oper} {ds : List Deferred} {tm : Array Value} {listed : Array Bool} {held : List Nat} {hs : List Hd} {base : Nat}
    {g : Gh} {s : St} {T : List (Array Value)} {w : World} (hst : StR g s tm T w) (hG : GlobOK E.C g.fz) (H : Heads P g ops ds tm listed held hs) (ha : held.all (again E base ops s) = true) :
    ∀ h ∈ hs, h.live listed → h.S w := by
  intro h hm hl
  rcases (H h hm).2 with ⟨p, hp, ht⟩ | h2 | ⟨k, hk, hk2⟩
  · obtain ⟨o, d, h1, h2, h3, h4, h5⟩ := ht.at_
    rw [h5]
    have := List.all_eq_true.1 ha p hp
    unfold again at this
    rw [h1] at this
    simp only at this
    split at this
    · rename_i v d' hx hd'
      rw [h3] at hd'
      cases hd'
      split at this
      · rename_i u hu
        simp only [Bool.and_eq_true] at this
        have hvu := same_eq this.2
        subst hvu
        obtain ⟨z, hz1, hz2⟩ := load_now hE.cfg hst hG h2 hx ds
        rw [rigid_eq this.1 (hst.env d v hu) hz2]
        exact hz1
      · cases this
    · cases this
  · obtain ⟨blk, off, cs, h3, h4⟩ := h2
    exact h4 w (h3.cells hst.fz)
  · rw [hl k hk] at hk2
    cases hk2
theorem hard_live {ops : Array Oper} {p : Nat} (hD : ∀ i x, ops[i]? = some x → ∀ j ∈ V.deps x, j < i) {listed : Array Bool} (hsz : listed.size = ops.size) (hun : listed.getD p true = false) (hcl : Closed ops listed) : ∀ k, hardFrom ops p k → listed.getD k true = false := by
 rintro k ⟨ok, hk, _, ha⟩
 refine undone_of (by rw [hsz]; exact (Array.getElem?_eq_some_iff.1 hk).1) fun hd => (undone hun).2 ?_
 exact ahead_done' hD (S := Done listed) hcl k k (Nat.le_refl _) ok hk (hcl k ok hk hd) p ha
theorem off_dst {ops : Array Oper} {Q : Exit → Act → World → Prop} {j : Nat} {o : Oper} (hoj : ops[j]? = some o) (hin : soft o = true) (z : Value) : ∀ c a w, QOff (inertDsts ops) Q (.panic c) (a.put o.dst z) w → QOff (inertDsts ops) Q (.panic c) a w := by
 intro c a w2 hq tm' hoff
 have hdf : (a.put o.dst z).defers = a.defers := by cases o.dst <;> rfl
 have := hq tm'
 rw [hdf] at this
 refine this ?_
 cases hd : o.dst with
 | none => simpa [Act.put, hd] using hoff
 | some d =>
  have : d ∈ inertDsts ops := by
   unfold inertDsts
   exact List.mem_filterMap.2 ⟨o, List.mem_filter.2 ⟨by simpa using Array.mem_of_getElem? hoj, hin⟩, hd⟩
  exact hoff.put this z
theorem runTot_ok (hE : EnvOK P E) {F : Fence} (hW : Wide F) (hro : F.round = none) {N : Nat} {inl : Nat → Callee → List AV → St → (AV → St → Option R) → (Pan → St → Option R) → Option R} (hI : InlOK P E inl) {base : Nat} {ops : Array Oper} (hsel : Region.noSelect ops = true) (hD : ∀ i x, ops[i]? = some x → ∀ j ∈ V.deps x, j < i) {ds : List Deferred} {n : Nat} (hall : ops.toList.all (dstOk n) = true)
    {T' : List (Array Value)} {Q : Exit → Act → World → Prop} {K : Ex → St → Option R} {r : R} :
    ∀ (fuel : Nat) (listed : Array Bool) (held : List Nat) (hds : List Hd) {g : Gh} {s : St} {tm : Array Value} {w : World}, runTot E inl base ops fuel listed held s K = some r → StR g s tm (dfs ds ++ T') w → GlobOK E.C g.fz → tm.size = n →
      (∀ s' tm' g' w', K .normal s' = some r → StR g' s' tm' (dfs ds ++ T') w' → Tr g w g' w' → tm'.size = n → Q .normal ⟨tm', ds⟩ w') →
      (∀ p s' tm' g' w', K (.pan p) s' = some r → StR g' s' tm' (dfs ds ++ T') w' → Tr g w g' w' → tm'.size = n → Q (.panic [Pan.entry p]) ⟨tm', ds⟩ w') →
      listed.size = ops.size → Closed ops listed → Heads P g ops ds tm listed held hds → (∀ h ∈ hds, h.live listed → h.S w) →
      ∀ m, left listed ≤ m → wpAnyX F N P ops (QOff (inertDsts ops) Q) hds m listed ⟨tm, ds⟩ w := by
  intro fuel
  induction fuel with
  | zero => intro listed held hds g s tm w h; cases h
  | succ fuel ih =>
    intro listed held hds g s tm w h hs hG hn hQ hP hsz hcl hH hL m hm
    simp only [runTot] at h
    split at h
    · rename_i hr
      have hq : QOff (inertDsts ops) Q .normal ⟨tm, ds⟩ w := show Q .normal _ _ from hQ s tm g w h hs (Tr.refl _ _) hn
      cases m with
      | zero => exact ⟨hr, hq⟩
      | succ m => exact ⟨fun _ => hq, fun i hi => (by rw [hr] at hi; cases hi)⟩
    · rename_i i l hr
      split at h
      · rename_i j hj
        have hj1 := List.find?_some hj
        have hj2 := List.mem_of_find?_eq_some hj
        simp only [Bool.and_eq_true] at hj1
        split at h
        · rename_i o hoj
          rw [hoj] at hj1
          split at h
          · rename_i c v hx
            cases hc : held.all (keeps ops o.dst) && (!isPure o || v.scal) && c with
            | false => rw [hc] at h; cases h
            | true =>
              rw [hc, cond_true] at h
              rw [Bool.and_eq_true, Bool.and_eq_true] at hc
              obtain ⟨⟨hkp, hpv⟩, hc1⟩ := hc
              subst hc1
              obtain ⟨z, blk, off, cs, hfz, hz1, hz2, hgd, hab, hsoft⟩ := soft_ok hE.cfg hs hG hj1.2 hpv hx ds
              have hok : dstOk n o = true := List.all_eq_true.1 hall o (by simpa using Array.mem_of_getElem? hoj)
              have hrd : j ∈ Region.ready .any ops listed := by rw [hr]; exact hj2
              have hset := left_set (mem_ready.1 hrd).1
              obtain ⟨m, rfl⟩ : ∃ k, m = k + 1 := ⟨m - 1, by omega⟩
              refine wpAnyX_first (h0 := ⟨fun _ => False, fun w1 => CellsAt w1 blk off cs⟩) hro hoj (Region.noSelect_spec hsel) (off_dst hoj hsoft z) (fun x hx hd => ?_) (fun h => h) (fun _ _ _ _ k hk => hk.elim) m listed _ w hsz hcl (Region.free_spec hoj hj1.1) hrd ⟨by simp [Region.wanted, hgd], hz1, fun w1 => hab w1 _⟩ (hfz.cells hs.fz) hL ?_
              · obtain ⟨ok, k1, k2⟩ := (hH x hx).1 j hd
                rw [hoj] at k1
                cases k1
                rw [hsoft] at k2
                cases k2
              · have hput := hs.put (fun d hd => by rw [hn]; exact dstOk_lt hok d hd) hz2 ds
                rw [put_defers]
                refine ih _ held _ h hput hG (by rw [put_size]; exact hn) hQ hP (by simp [hsz]) (hcl.set hrd) ?_ ?_ m (by omega)
                · intro x hx
                  rcases List.mem_cons.1 hx with rfl | hx
                  · exact ⟨fun _ hk => hk.elim, .inr (.inl ⟨blk, off, cs, hfz, fun _ h => h⟩)⟩
                  · exact hH.put j hkp z (fun p hp => .inl hp) x hx
                · intro x hx hl
                  rcases List.mem_cons.1 hx with rfl | hx
                  · exact hfz.cells hs.fz
                  · exact hL x hx (Hd.live_set hl)
          · cases h
        · cases h
      · split at h
        · rename_i o ho _
          cases hnd : noDefer o && held.all (keeps ops o.dst) with
          | false => rw [hnd] at h; cases h
          | true =>
            rw [hnd, cond_true] at h
            simp only [Bool.and_eq_true] at hnd
            have hok : dstOk n o = true := List.all_eq_true.1 hall o (by simpa using Array.mem_of_getElem? ho)
            have hrd : i ∈ Region.ready .any ops listed := by rw [hr]; simp
            have hset := left_set (mem_ready.1 hrd).1
            obtain ⟨m, rfl⟩ : ∃ k, m = k + 1 := ⟨m - 1, by omega⟩
            refine ⟨fun he => (by rw [hr] at he; cases he), ?_⟩
            intro i' hi'
            rw [hr, List.mem_singleton] at hi'
            subst hi'
            refine op1_ok hE hW hI ho hok hnd.1 rfl h hs hG hn (fun s' tm' g' w' a b c d e => ?_) (fun p s' tm' g' w' a b c d => ?_)
            · obtain ⟨z, rfl⟩ := e
              cases hag : (stillHeld ops i' o held).all (again E base ops s') with
              | false => simp only [hag, cond_false] at a; cases a
              | true =>
                simp only [hag, cond_true] at a
                have hH' : Heads P g' ops ds (Act.put ⟨tm, ds⟩ o.dst z).tmps (listed.setIfInBounds i' true) (stillHeld ops i' o held) hds := by
                  refine (hH.mono c.fz).put i' hnd.2 z fun p hp => ?_
                  unfold stillHeld
                  cases hso : soft o with
                  | true => exact .inl hp
                  | false =>
                    rw [cond_false]
                    cases hah : ahead (masks ops.toList []) p i' with
                    | false => exact .inl (List.mem_filter.2 ⟨hp, by rw [hah]; rfl⟩)
                    | true => exact .inr ⟨o, ho, hso, hah⟩
                have hL' := heads_live hE b (hG.mono c.fz) hH' hag
                exact ⟨hL', ih _ _ _ a b (hG.mono c.fz) d (fun s2 tm2 g2 w2 q1 q2 q3 q4 => hQ s2 tm2 g2 w2 q1 q2 (c.trans q3) q4) (fun p s2 tm2 g2 w2 q1 q2 q3 q4 => hP p s2 tm2 g2 w2 q1 q2 (c.trans q3) q4) (by simp [hsz]) (hcl.set hrd) hH' hL' m (by omega)⟩
            · intro tm2 hoff
              refine hP p _ tm2 g' w' a ⟨fun t v e => ?_, b.stk, b.bxs, b.fz⟩ c (by rw [hoff.1]; exact d)
              rw [hoff.2 t (find_dropE e).1]
              exact b.env t v (find_dropE_eq e)
        · split at h
          · rename_i j hj
            have hj1 := List.find?_some hj
            have hj2 := List.mem_of_find?_eq_some hj
            simp only [Bool.and_eq_true] at hj1
            split at h
            · rename_i o hoj
              rw [hoj] at hj1
              split at h
              · rename_i c v d hx hd
                cases hc : c && v.rigid && held.all (keeps ops o.dst) && !(looks ops o).contains d with
                | false => rw [hc] at h; cases h
                | true =>
                  rw [hc, cond_true] at h
                  simp only [Bool.and_eq_true, Bool.not_eq_true'] at hc
                  obtain ⟨⟨⟨hc1, hrg⟩, hkp⟩, hlk⟩ := hc
                  subst hc1
                  have hin : isLoad o = true := hj1.2
                  obtain ⟨z, hz1, hz2⟩ := load_now hE.cfg hs hG hin hx ds
                  have hok : dstOk n o = true := List.all_eq_true.1 hall o (by simpa using Array.mem_of_getElem? hoj)
                  have hrd : j ∈ Region.ready .any ops listed := by rw [hr]; exact hj2
                  have hun := (mem_ready.1 hrd).1
                  have hset := left_set hun
                  obtain ⟨m, rfl⟩ : ∃ k, m = k + 1 := ⟨m - 1, by omega⟩
                  have hsoft : soft o = true := by simp [soft, hin]
                  have hdn : d < n := dstOk_lt hok d hd
                  refine wpAnyX_first (h0 := ⟨hardFrom ops j, fun w1 => (execOp (Act.eval ⟨tm, ds⟩) o).run P w1 = .ok (.value z) w1⟩) hro hoj (Region.noSelect_spec hsel) (off_dst hoj hsoft z) (fun x hx hd => ?_) ?_ (fun l' q1 q2 q3 k hk => hard_live hD q1 q2 q3 k hk) m listed _ w hsz hcl (Region.free_spec hoj hj1.1) hrd ⟨by simp [Region.wanted, load_guard hin], fun w1 h1 => h1, fun w1 => about_load hin w1 _⟩ hz1 hL ?_
                  · obtain ⟨ok, k1, k2⟩ := (hH x hx).1 j hd
                    rw [hoj] at k1
                    cases k1
                    rw [hsoft] at k2
                    cases k2
                  · rintro ⟨ok, k1, k2, _⟩
                    rw [hoj] at k1
                    cases k1
                    rw [hsoft] at k2
                    cases k2
                  · have hput := hs.put (fun d hd => by rw [hn]; exact dstOk_lt hok d hd) hz2 ds
                    rw [put_defers]
                    refine ih _ (j :: held) _ h hput hG (by rw [put_size]; exact hn) hQ hP (by simp [hsz]) (hcl.set hrd) ?_ ?_ m (by omega)
                    · intro x hx
                      rcases List.mem_cons.1 hx with rfl | hx
                      · refine ⟨fun k hk => ⟨hk.choose, hk.choose_spec.1, hk.choose_spec.2.1⟩, .inl ⟨j, List.mem_cons_self .., rfl, o, d, hoj, hin, hd, by rw [put_size, hn]; exact hdn, fun w1 => ?_⟩⟩
                        have e1 : execOp (Act.eval ⟨(Act.put ⟨tm, ds⟩ o.dst z).tmps, ds⟩) o = execOp (Act.eval ⟨tm, ds⟩) o := by
                          rw [← put_defers]
                          refine execOp_put (ops := ops) o (load_sel hin) _ o.dst z (fun u hu => ?_)
                          rw [hd] at hu
                          cases hu
                          exact contains_false hlk
                        have e2 : (Act.put ⟨tm, ds⟩ o.dst z).tmps.getD d undef = z := by
                          rw [hd]
                          show (tm.setIfInBounds d z).getD d undef = _
                          rw [Array.getD_eq_getD_getElem?, Array.getElem?_setIfInBounds_self_of_lt (by rw [hn]; exact hdn)]
                          rfl
                        rw [e1, e2]
                      · exact hH.put j hkp z (fun p hp => .inl (List.mem_cons_of_mem _ hp)) x hx
                    · intro x hx hl
                      rcases List.mem_cons.1 hx with rfl | hx
                      · exact hz1
                      · exact hL x hx (Hd.live_set hl)
              · cases h
            · cases h
          · cases h
end
end Go.V
namespace Go.V
variable [Codes]
section
variable {P : Program} {E : Env0}
theorem VsR.grow' {g g' : Gh} (hx : ExtBut none g g') : ∀ {l : List AV} {cs : List Value}, VsR g l cs → VsR g' l cs
 | [], [], h => h
 | [], _ :: _, h => h.elim
 | _ :: _, [], h => h.elim
 | _ :: _, _ :: _, ⟨h1, h2⟩ => ⟨h1.grow hx, h2.grow' hx⟩
structure Mk (p : Nat → Prop) (g : Gh) (w : World) (ds : List Deferred) : Prop where
 mem : ∀ d ∈ ds, (∃ r, d = { target := .collected r, args := #[] } ∧ p r ∧ w.heap[r]? = some (.deferred (some [])) ∧ ¬ owned g r) ∨ ∃ f cap args, d = { target := .fn (.func f) cap, args := args }
 apart : ds.Pairwise (fun a b => ∀ r, a.target = .collected r → b.target = .collected r → False)
theorem Mk.nil {p : Nat → Prop} {g : Gh} {w : World} : Mk p g w [] := ⟨(fun _ h => nomatch h), .nil⟩
theorem Mk.tr {p : Nat → Prop} {g g' : Gh} {w w' : World} {ds : List Deferred} (h : Mk p g w ds) (t : Tr g w g' w') : Mk p g' w' ds := by
 refine ⟨fun d hd => ?_, h.apart⟩
 rcases h.mem d hd with ⟨r, e1, e2, e3, e4⟩ | h
 ·have hlt := (Array.getElem?_eq_some_iff.1 e3).1
  refine .inl ⟨r, e1, e2, (t.block r hlt e4).trans e3, fun ho => ?_⟩
  rcases t.own r ho with h | h
  ·exact e4 h
  ·omega
 ·exact .inr h
theorem Mk.cons {p : Nat → Prop} {g : Gh} {w : World} {ds : List Deferred} (h : Mk p g w ds) (f : FuncId) (cap args : Array Value) : Mk p g w ({ target := .fn (.func f) cap, args := args } :: ds) := by
 refine ⟨fun d hd => ?_, List.pairwise_cons.2 ⟨(fun _ _ _ e _ => nomatch e), h.apart⟩⟩
 rcases List.mem_cons.1 hd with rfl | hd
 ·exact .inr ⟨f, cap, args, rfl⟩
 ·exact h.mem d hd
theorem Mk.go {p : Nat → Prop} {g : Gh} {w : World} {ds ds' : List Deferred} (h : Mk p g w ds) (k : DsGo ds ds') : Mk p g w ds' := by
 induction k with
 | refl => exact h
 | cons f cap args _ ih => exact ih (h.cons f cap args)
theorem Mk.none {g : Gh} {w : World} {ds : List Deferred} (h : Mk (fun _ => False) g w ds) (hd : dfs ds = []) : ds = [] := by
 cases ds with
 | nil => rfl
 | cons d ds =>
  rcases h.mem d (by simp) with ⟨r, e1, e2, _⟩ | ⟨f, cap, args, rfl⟩
  ·exact e2.elim
  ·simp [dfs, frameOf] at hd
theorem StkR.length {g : Gh} : ∀ {l : List Env} {m : List (Array Value)}, StkR g l m → l.length = m.length
 | [], [], _ => rfl
 | _ :: _, _ :: _, h => by simp [h.2.length]
 | [], _ :: _, h => h.elim
 | _ :: _, [], h => h.elim
theorem StR.putOther {g : Gh} {s : St} {tm : Array Value} {tms : List (Array Value)} {w : World} (h : StR g s tm tms w) {r : Nat} {x : Option (List Deferred)} (hr : w.heap[r]? = some (.deferred x)) (hno : ¬ owned g r) (o : Obj) :
  StR g s tm tms (w.putObj r o) := by
 have hw : ∀ b, b ≠ r → (w.putObj r o).heap[b]? = w.heap[b]? := fun b hb => World.putObj_heap_other hb
 refine ⟨h.env, h.stk, ⟨fun k b e => ?_, h.bxs.dom, h.bxs.sep⟩, fun b o' v e => ?_⟩
 ·obtain ⟨gb, h1, h2⟩ := h.bxs.box k b e
  exact ⟨gb, h1, h2.ext (ExtBut.refl g) (fun blk e1 e2 => hw blk (fun e => hno ⟨k, gb, h1, by rw [← e]; exact e1, e2⟩)) (fun _ _ _ _ h => h) (boxClear_none _)⟩
 ·have h1 := h.fz b o' v e
  have hb : b ≠ r := by
   intro e
   subst e
   simp [World.cell?, hr] at h1
  rw [← h1]
  exact World.cell?_of_block (a := ⟨b, o', none⟩) (hw b hb)
theorem Tr.putOther {g0 g : Gh} {w0 w : World} (t : Tr g0 w0 g w) {r : Nat} (hr : w0.heap.size ≤ r) (o : Obj) : Tr g0 w0 g (w.putObj r o) :=
 ⟨t.os, t.tape, t.output, by have := t.size; simp only [World.putObj, Array.size_setIfInBounds]; exact this, t.fz, t.fzNew, t.own, fun b hb ho => (World.putObj_heap_other (by omega)).trans (t.block b hb ho)⟩
theorem putL_ok {g : Gh} : ∀ {ps : List Nat} {args : List AV} {vals : List Value} {env : Env} {tm : Array Value}, VsR g args vals → EnvR g env tm → ps.length = args.length → (∀ p ∈ ps, p < tm.size) →
  EnvR g (putL ps args env) ((ps.zip vals).foldl (fun t x => t.setIfInBounds x.1 x.2) tm) ∧ ((ps.zip vals).foldl (fun t x => t.setIfInBounds x.1 x.2) tm).size = tm.size
 | [], [], vals, env, tm, _, he, _, _ => ⟨by simpa [putL] using he, by simp⟩
 | [], _ :: _, _, _, _, _, _, h, _ => by simp at h
 | _ :: _, [], _, _, _, _, _, h, _ => by simp at h
 | p :: ps, v :: args, [], _, _, h, _, _, _ => h.elim
 | p :: ps, v :: args, c :: vals, env, tm, ⟨h1, h2⟩, he, hl, hp => by
  simp only [putL, List.zip_cons_cons, List.foldl_cons]
  have he' : EnvR g ((p, v) :: env) (tm.setIfInBounds p c) := by
   intro n u e
   by_cases hn : p = n
   ·subst hn
    rw [find_cons_same] at e
    cases e
    have : (tm.setIfInBounds p c).getD p undef = c := by
     rw [Array.getD_eq_getD_getElem?, Array.getElem?_setIfInBounds_self_of_lt (hp p (by simp))]; rfl
    rw [this]
    exact h1
   ·rw [find_cons_other _ _ hn] at e
    have : (tm.setIfInBounds p c).getD n undef = tm.getD n undef := by
     rw [Array.getD_eq_getD_getElem?, Array.getD_eq_getD_getElem?, Array.getElem?_setIfInBounds_ne hn]
    rw [this]
    exact he n u e
  have := putL_ok (env := (p, v) :: env) (tm := tm.setIfInBounds p c) h2 he' (by simpa using hl) (fun q hq => by rw [Array.size_setIfInBounds]; exact hp q (by simp [hq]))
  exact ⟨this.1, by rw [this.2, Array.size_setIfInBounds]⟩
theorem zip_foldl (ps : List Nat) (vals : Array Value) (tm : Array Value) :
  (ps.toArray.zip vals).foldl (fun t (x : Nat × Value) => t.setIfInBounds x.1 x.2) tm = (ps.zip vals.toList).foldl (fun t x => t.setIfInBounds x.1 x.2) tm := by
 rw [← Array.foldl_toList, Array.toList_zip]
theorem rangesOf_n {nt : Nat} : ∀ {c : Code} {x : Nat × LCode}, x ∈ rangesOf nt c → x.2.n = nt := by
 intro c
 induction c with
 | seq a b iha ihb => intro x h; simp only [rangesOf, List.mem_append] at h; exact h.elim iha ihb
 | cond q a b iha ihb => intro x h; simp only [rangesOf, List.mem_append] at h; exact h.elim iha ihb
 | block id c ih => intro x h; exact ih h
 | loop c ih => intro x h; exact ih h
 | rangeFunc q ps a b iha ihb => intro x h; simp only [rangesOf, List.mem_singleton] at h; subst h; rfl
 | _ => intro x h; simp [rangesOf] at h
theorem rangesOf_dsts {nt : Nat} : ∀ {c : Code} {x : Nat × LCode}, dstsOk nt c = true → x ∈ rangesOf nt c → (∀ p ∈ x.2.ps, p < nt) ∧ dstsOk nt x.2.assign = true ∧ dstsOk nt x.2.body = true := by
 intro c
 induction c with
 | seq a b iha ihb => intro x hd h; simp only [rangesOf, List.mem_append] at h; simp only [dstsOk, Bool.and_eq_true] at hd; exact h.elim (iha hd.1) (ihb hd.2)
 | cond q a b iha ihb => intro x hd h; simp only [rangesOf, List.mem_append] at h; simp only [dstsOk, Bool.and_eq_true] at hd; exact h.elim (iha hd.1) (ihb hd.2)
 | block id c ih => intro x hd h; exact ih hd h
 | loop c ih => intro x hd h; exact ih hd h
 | rangeFunc q ps a b iha ihb =>
  intro x hd h
  simp only [rangesOf, List.mem_singleton] at h
  subst h
  simp only [dstsOk, Bool.and_eq_true, List.all_eq_true] at hd
  exact ⟨fun p hp => Nat.le_of_ble_eq_true (hd.1 p hp), hd.2.1, hd.2.2⟩
 | _ => intro x _ h; simp [rangesOf] at h
theorem rangesOf_draws {tot : List Nat} {nt : Nat} : ∀ {c : Code} {x : Nat × LCode}, drawsOk tot c = true → x ∈ rangesOf nt c → drawsOk tot x.2.assign = true ∧ drawsOk tot x.2.body = true := by
 intro c
 induction c with
 | seq a b iha ihb => intro x hd h; simp only [rangesOf, List.mem_append] at h; simp only [drawsOk, Bool.and_eq_true] at hd; exact h.elim (iha hd.1) (ihb hd.2)
 | cond q a b iha ihb => intro x hd h; simp only [rangesOf, List.mem_append] at h; simp only [drawsOk, Bool.and_eq_true] at hd; exact h.elim (iha hd.1) (ihb hd.2)
 | block id c ih => intro x hd h; exact ih hd h
 | loop c ih => intro x hd h; exact ih hd h
 | rangeFunc q ps a b iha ihb =>
  intro x hd h
  simp only [rangesOf, List.mem_singleton] at h
  subst h
  simp only [drawsOk, Bool.and_eq_true] at hd
  exact hd
 | _ => intro x _ h; simp [rangesOf] at h
theorem rangesOf_loops {nt : Nat} : ∀ {c : Code} {x : Nat × LCode}, x ∈ rangesOf nt c → (∀ b ∈ loopsOf x.2.assign, b ∈ loopsOf c) ∧ (∀ b ∈ loopsOf x.2.body, b ∈ loopsOf c) := by
 intro c
 induction c with
 | seq a b iha ihb =>
  intro x h
  simp only [rangesOf, List.mem_append] at h
  simp only [loopsOf, List.mem_append]
  rcases h with h | h
  ·exact ⟨fun b hb => .inl ((iha h).1 b hb), fun b hb => .inl ((iha h).2 b hb)⟩
  ·exact ⟨fun b hb => .inr ((ihb h).1 b hb), fun b hb => .inr ((ihb h).2 b hb)⟩
 | cond q a b iha ihb =>
  intro x h
  simp only [rangesOf, List.mem_append] at h
  simp only [loopsOf, List.mem_append]
  rcases h with h | h
  ·exact ⟨fun b hb => .inl ((iha h).1 b hb), fun b hb => .inl ((iha h).2 b hb)⟩
  ·exact ⟨fun b hb => .inr ((ihb h).1 b hb), fun b hb => .inr ((ihb h).2 b hb)⟩
 | block id c ih => intro x h; exact ih h
 | loop c ih => intro x h; simp only [loopsOf, List.mem_cons]; exact ⟨fun b hb => .inr ((ih h).1 b hb), fun b hb => .inr ((ih h).2 b hb)⟩
 | rangeFunc q ps a b iha ihb =>
  intro x h
  simp only [rangesOf, List.mem_singleton] at h
  subst h
  simp only [loopsOf, List.mem_append]
  exact ⟨fun b hb => .inl hb, fun b hb => .inr hb⟩
 | _ => intro x h; simp [rangesOf] at h
theorem find_mem {α : Type} : ∀ {l : List (Nat × α)} {k : Nat} {v : α}, find l k = some v → (k, v) ∈ l
 | [], _, _, h => nomatch h
 | (j, u) :: l, k, v, h => by
  by_cases hj : j = k
  ·subst hj; rw [find_cons_same] at h; cases h; simp
  ·rw [find_cons_other _ _ hj] at h; simp [find_mem h]
theorem mem_find {α : Type} : ∀ {l : List (Nat × α)} {k : Nat} {v : α}, idsOk (l.map (·.1)) = true → (k, v) ∈ l → find l k = some v
 | [], _, _, _, h => nomatch h
 | (j, u) :: l, k, v, hi, h => by
  simp only [List.map_cons, idsOk, Bool.and_eq_true, Bool.not_eq_true'] at hi
  rcases List.mem_cons.1 h with e | h
  ·cases e; rw [find_cons_same]
  ·have hj : j ≠ k := by
    intro e
    subst e
    have : (l.map (·.1)).contains j = true := List.contains_iff_mem.2 (List.mem_map.2 ⟨(j, v), h, rfl⟩)
    rw [this] at hi
    cases hi.1
   rw [find_cons_other _ _ hj]
   exact mem_find hi.2 h
theorem isYld_ok {env : Env} {b : Nat} (h : isYld env b = true) : find env 0 = some (.yld b) := by
 unfold isYld at h
 split at h
 ·rename_i c hc; rw [hc, Nat.eq_of_beq_eq_true h]
 ·cases h
theorem yld_blk {g : Gh} {b l : Nat} {c : Value} (h : VR g (.yld b) c) (he : c = .func (.yield l) #[] #[]) : ∃ gb, g.bx b = some gb ∧ gb.isRow = false ∧ gb.blk = some l := by
 obtain ⟨gb, l', e1, e2, e3, e4⟩ := h
 rw [he] at e4
 simp only [List.cons.injEq, and_true, Value.func.injEq, Fn.yield.injEq] at e4
 subst e4
 exact ⟨gb, e1, e2, e3⟩
end
end Go.V
namespace Go.V
variable [Codes]
section
variable {P : Program} {E : Env0}
def Ex.to : Ex → Exit
 | .normal => .normal
 | .exit id => .exit id
 | .ret => .ret
 | .pan p => .panic [Pan.entry p]
theorem dstsOk_mono {n m : Nat} (h : n ≤ m) : ∀ {c : Code}, dstsOk n c = true → dstsOk m c = true := by
 have one : ∀ o : Oper, dstOk n o = true → dstOk m o = true := by
  intro o ho
  unfold dstOk at ho ⊢
  split
  ·rename_i d hd
   rw [hd] at ho
   have : d < n := Nat.le_of_ble_eq_true ho
   exact Nat.ble_eq_true_of_le (Nat.le_trans this h)
  ·rfl
 intro c
 induction c with
 | region id ops dr =>
  intro hc
  simp only [dstsOk, List.all_eq_true] at hc ⊢
  exact fun o ho => one o (hc o ho)
 | seq a b iha ihb => intro hc; simp only [dstsOk, Bool.and_eq_true] at hc ⊢; exact ⟨iha hc.1, ihb hc.2⟩
 | cond x a b iha ihb => intro hc; simp only [dstsOk, Bool.and_eq_true] at hc ⊢; exact ⟨iha hc.1, ihb hc.2⟩
 | block id c ih => exact fun hc => ih hc
 | loop c ih => exact fun hc => ih hc
 | rangeFunc q ps a b iha ihb =>
  intro hc
  simp only [dstsOk, Bool.and_eq_true, List.all_eq_true] at hc ⊢
  exact ⟨fun p hp => Nat.ble_eq_true_of_le (Nat.le_trans (Nat.le_of_ble_eq_true (hc.1 p hp)) h), iha hc.2.1, ihb hc.2.2⟩
 | _ => intro _; rfl
abbrev Post {R : Type} (Q : Exit → Act → World → Prop) (K : Ex → St → Option R) (r : R) (N : Nat → Prop) (g : Gh) (tms : List (Array Value)) (w : World) (n : Nat) : Prop :=
 ∀ (e : Ex) (s' : St) (tm' : Array Value) (g' : Gh) (w' : World) (ds' : List Deferred), K e s' = some r → StR g' s' tm' (dfs ds' ++ tms) w' → Tr g w g' w' → tm'.size = n → Mk N g' w' ds' → Q e.to ⟨tm', ds'⟩ w'
theorem rangeEnd_ok {F : Fence} {M n l0 key : Nat} {N : Nat → Prop} {R : Type} {K : Ex → St → Option R} {r : R} {g g1 : Gh} {tm : Array Value} {tms : List (Array Value)} {w W1 : World} {Q : Exit → Act → World → Prop} {ds1 : List Deferred}
    {s' : St} {g' : Gh} {w' : World}
    (hk : (match s'.stk, find s'.bxs key with
      | env :: stk, some (.loop false _ _ _) => bif isYld s'.env key then K .normal { env := env, stk := stk, bxs := setB s'.bxs key .dead } else none
      | _, _ => none) = some r)
    (hs' : StR g' s' #[.func (.yield l0) #[] #[]] (tm :: (dfs ds1 ++ tms)) w') (t1 : Tr g w g1 W1) (t2 : Tr g1 W1 g' w') (hn : tm.size = n) (hm1 : Mk N g1 W1 ds1) (hQ : Post Q K r N g tms w n) :
    ∃ jump w4, (Instr.endLoop l0).run P w' = .ok jump w4 ∧ (match jump with | none => Q .normal ⟨tm, ds1⟩ w4 | some c => c.wpIn F M P Q ⟨tm, ds1⟩ w4) := by
  split at hk
  · rename_i env stk f1 i1 env1 hst hbx
    cases hy : isYld s'.env key with
    | false => rw [hy] at hk; cases hk
    | true =>
      rw [hy, cond_true] at hk
      have hv := hs'.env 0 _ (isYld_ok hy)
      obtain ⟨gb1, q1, q2, q3⟩ := yld_blk hv rfl
      obtain ⟨gb2, p1, p2⟩ := hs'.bxs.box _ _ hbx
      rw [q1] at p1
      cases p1
      obtain ⟨p3, p4, l, tm2, D, fn2, cd2, p5, p6, p7, p8, p9, p10⟩ := p2
      rw [q3] at p5
      cases p5
      obtain ⟨w3, hw3⟩ : ∃ w3, w'.putObj l0 (.loop { state := .exhausted, pending := none, fn := fn2, tmps := tm2, params := cd2.ps.toArray, assign := cd2.assign, body := cd2.body, defers := D }) = w3 := ⟨_, rfl⟩
      have hlt := (Array.getElem?_eq_some_iff.1 p7).1
      obtain ⟨hs3, t3⟩ := hs'.upd q1 q3 p4 p10 (w' := w3) (by rw [← hw3]; rfl) (by rw [← hw3]; rfl) (by rw [← hw3]; rfl) (by rw [← hw3]; simp [World.putObj]) (fun b hb _ => by rw [← hw3]; exact World.putObj_heap_other hb) .dead
        ⟨p3, p4, _, _, q3, by rw [← hw3]; exact World.putObj_heap_same hlt, p10⟩
      refine ⟨none, w3, ?_, ?_⟩
      · rw [← hw3]; exact run_endLoop p7 (by simp)
      · have hstk := hs3.stk
        simp only [Eff.apply, hst] at hstk
        exact hQ .normal _ tm g' w3 _ hk ⟨hstk.1, hstk.2, hs3.bxs, hs3.fz⟩ (t1.trans (t2.trans t3)) hn ((hm1.tr t2).tr t3)
  · cases hk
theorem range_ok (hE : EnvOK P E) {F : Fence} (hW : Wide F) {M nt : Nat} {N : Nat → Prop} {d f base n : Nat} (hI : ∀ R : Type, InlOK (R := R) P E (inlineC E d)) (hnt : nt ≤ n) {q : Operand} {ps : Array Tmp} {a b : Code} (hround : F.round = none) (hcd : Codes.cd f (rid a b) = some ⟨ps.toList, a, b, nt⟩)
    {R : Type} {K : Ex → St → Option R} {r : R} {g : Gh} {s : St} {tm : Array Value} {tms : List (Array Value)} {w : World} {Q : Exit → Act → World → Prop} {ds : List Deferred}
    (h : runC E (inlineC E d) d f base (.rangeFunc q ps a b) s K = some r) (hs : StR g s tm (dfs ds ++ tms) w) (hG : GlobOK E.C g.fz) (hn : tm.size = n) (hm : Mk N g w ds) (hN : ∀ r, w.heap.size ≤ r → N r)
    (hQ : Post Q K r N g tms w n) : (Code.rangeFunc q ps a b).wpIn F M P Q ⟨tm, ds⟩ w := by
  simp only [runC] at h
  split at h
  · rename_i f' caps hq
    obtain ⟨cv, hcv, hcaps⟩ := ev_ok hs hG hq ds
    simp only [List.cons.injEq, and_true] at hcv
    split at h
    · rename_i hfree
      obtain ⟨hent, hcall⟩ := (hI R).fn _ _ _ _ _ _ _ h
      refine wpIn_rangeFunc ?_
      intro fn hfn
      rw [hround]
      obtain ⟨rec, hrec⟩ : ∃ rec : LoopState → Loop, rec = fun st => { state := st, pending := none, fn, tmps := tm, params := ps, assign := a, body := b, defers := w.heap.size } := ⟨_, rfl⟩
      obtain ⟨W1, hW1⟩ : ∃ W1, (w.alloc (.deferred (some []))).alloc (.loop (rec .ready)) = W1 := ⟨_, rfl⟩
      have hL1 : W1.heap[w.heap.size + 1]? = some (.loop (rec .ready)) := by
        rw [← hW1]; have := World.alloc_heap_new (w.alloc (.deferred (some []))) (.loop (rec .ready)); rwa [World.size_alloc] at this
      have hK1 : W1.heap[w.heap.size]? = some (.deferred (some [])) := by
        rw [← hW1]; exact ((World.grownBy_alloc (w.alloc (.deferred (some []))) (.loop (rec .ready)) none).block _ (by simp) (by simp)).trans (World.alloc_heap_new w _)
      have hgrow : w.grownBy W1 none := by
        rw [← hW1]
        have h1 := World.grownBy_alloc w (.deferred (some [])) none
        have h2 := World.grownBy_alloc (w.alloc (.deferred (some []))) (.loop (rec .ready)) none
        exact ⟨h2.os.trans h1.os, h2.tape.trans h1.tape, h2.output.trans h1.output, Nat.le_trans h1.size h2.size, fun k hk hne => (h2.block k (Nat.lt_of_lt_of_le hk h1.size) hne).trans (h1.block k hk hne)⟩
      obtain ⟨key, hkey⟩ : ∃ key, key = loopKey base a b := ⟨_, rfl⟩
      rw [← hkey] at h hfree hcall
      obtain ⟨gb, hgb⟩ : ∃ gb : Gb, gb = ⟨false, true, some (w.heap.size + 1), 0, 0, 0, 0⟩ := ⟨_, rfl⟩
      have hnf : ∀ o, g.fz (w.heap.size + 1) o = none := fun o => by
        cases e : g.fz (w.heap.size + 1) o with
        | none => rfl
        | some v => have := hs.fz.lt (b := w.heap.size + 1) (o := o) (by rw [e]; simp); omega
      have hx0 := ext_put gb (hs.bxs.none hfree)
      have hbox : BoxR (g.put key gb) (.loop false f (rid a b) s.env) gb W1 := by
        refine ⟨by rw [hgb], by rw [hgb], w.heap.size + 1, tm, w.heap.size, fn, ⟨ps.toList, a, b, nt⟩, by rw [hgb], hcd, ?_, hs.env.grow hx0, (by show nt ≤ tm.size; omega), hnf⟩
        rw [hL1, hrec]
        simp
      obtain ⟨hs1, t1, hx1⟩ := hs.add hfree hgrow _ gb hbox (fun blk e1 _ => by rw [hgb] at e1; cases e1; omega)
      have hyld : VR (g.put key gb) (.yld key) (.func (.yield (w.heap.size + 1)) #[] #[]) := ⟨gb, w.heap.size + 1, Gh.put_same _ _ _, by rw [hgb], by rw [hgb], rfl⟩
      have hs2 : StR (g.put key gb) { env := [(0, .yld key)], stk := s.env :: s.stk, bxs := (key, .loop false f (rid a b) s.env) :: s.bxs } #[.func (.yield (w.heap.size + 1)) #[] #[]] (tm :: (dfs ds ++ tms)) W1 := by
        refine ⟨fun n v e => ?_, ⟨hs1.env, hs1.stk⟩, hs1.bxs, hs1.fz⟩
        by_cases hn0 : 0 = n
        · subst hn0
          rw [find_cons_same] at e
          cases e
          exact hyld
        · rw [find_cons_other _ _ hn0] at e; cases e
      have hm1 : Mk N (g.put key gb) W1 ({ target := .collected w.heap.size, args := #[] } :: ds) := by
        have hm0 := hm.tr t1
        refine ⟨fun d hd => ?_, List.pairwise_cons.2 ⟨fun d hd r e1 e2 => ?_, hm0.apart⟩⟩
        · rcases List.mem_cons.1 hd with rfl | hd
          · refine .inl ⟨w.heap.size, rfl, hN _ (Nat.le_refl _), hK1, ?_⟩
            rintro ⟨k, gb', e1, e2, e3⟩
            by_cases hk : k = key
            · subst hk
              rw [Gh.put_same] at e1
              cases e1
              rw [hgb] at e2
              simp at e2
            · rw [Gh.put_other _ _ hk] at e1
              have := hs.bxs.lt ⟨k, gb', e1, e2, e3⟩
              omega
          · exact hm0.mem d hd
        · simp only [Target.collected.injEq] at e1
          subst e1
          rcases hm.mem d hd with ⟨r', rfl, _, e4, _⟩ | ⟨f, cap, args, rfl⟩
          · simp only [Target.collected.injEq] at e2
            subst e2
            have := (Array.getElem?_eq_some_iff.1 e4).1
            omega
          · cases e2
      refine ⟨w.heap.size + 1, [{ target := .collected w.heap.size, args := #[] }], W1, { target := .fn (.func f') cv, args := #[.func (.yield (w.heap.size + 1)) #[] #[]] }, W1, f',
        #[.func (.yield (w.heap.size + 1)) #[] #[]] ++ cv, W1, ?_, ?_, fun f2 _ => hW.fn f2, ?_, hW.deep M, ?_⟩
      · rw [← hW1, hrec]; exact run_enterLoop_outer _ _ _ _ _
      · simp only [resolve, hcv]
        simp [go_sem]
      · simp only [invoke]
        exact run_callFunc hent _ _
      · have hvs : VsR (g.put key gb) (.yld key :: caps) ((#[Value.func (.yield (w.heap.size + 1)) #[] #[]] : Array Value) ++ cv).toList := by
          rw [Array.toList_append]
          exact ⟨hyld, (hcaps.vsR).grow' hx1⟩
        have hc := hcall (g.put key gb) #[.func (.yield (w.heap.size + 1)) #[] #[]] (tm :: (dfs ds ++ tms)) W1 (#[.func (.yield (w.heap.size + 1)) #[] #[]] ++ cv) hs2 (hG.mono t1.fz) hvs
        refine hW.calls.2 (Calls.mono hc ?_)
        rintro e w' (⟨v, av, s', g', rfl, hk, _, hs', t2⟩ | ⟨p, s', g', rfl, hk, _⟩)
        · exact rangeEnd_ok (ds1 := { target := .collected w.heap.size, args := #[] } :: ds) hk hs' t1 t2 hn hm1 hQ
        · cases hk
    · cases h
  · cases h
theorem runC_ok (hE : EnvOK P E) {F : Fence} (hW : Wide F) {M nt : Nat} {N : Nat → Prop} {d f base n : Nat} (hI : ∀ R : Type, InlOK (R := R) P E (inlineC E d)) (hnt : nt ≤ n) : ∀ (c : Code), dstsOk n c = true → drawsOk (E.totOf f) c = true →
    (∀ b ∈ loopsOf c, ∀ l, findL E.L ⟨d, base, f, firstRegion b⟩ = some l → LoopOK E d f base b l) → (F.round = none ∨ noRange (E.totOf f) c = true) → (∀ x ∈ rangesOf nt c, Codes.cd f x.1 = some x.2) →
    ∀ {R : Type} {K : Ex → St → Option R} {r : R} {g : Gh} {s : St} {tm : Array Value} {tms : List (Array Value)} {w : World} {Q : Exit → Act → World → Prop} {ds : List Deferred},
      runC E (inlineC E d) d f base c s K = some r → StR g s tm (dfs ds ++ tms) w → GlobOK E.C g.fz → tm.size = n → Mk N g w ds → ((∀ r, w.heap.size ≤ r → N r) ∨ noRange (E.totOf f) c = true) →
      Post Q K r N g tms w n → c.wpIn F M P Q ⟨tm, ds⟩ w := by
  intro c
  induction c with
  | skip => intro _ _ _ _ _ R K r g s tm tms w Q ds h hs hG hn hm hN hQ; exact wpIn_skip (hQ .normal s tm g w ds h hs (Tr.refl _ _) hn hm)
  | region id ops dr =>
    intro hd hw _ hro _ R K r g s tm tms w Q ds h hs hG hn hm hN hQ
    cases dr with
    | true =>
      simp only [runC, cond_true] at h
      simp only [drawsOk, Bool.not_true, Bool.false_or] at hw
      cases htot : (E.totOf f).contains id with
      | true =>
       rw [htot, cond_true] at h hw
       have hr0 : F.round = none := hro.resolve_right (by simp only [noRange, htot]; simp)
       have ht : Tr g w g w.drew := Tr.grow ⟨rfl, rfl, rfl, Nat.le_refl _, fun _ _ _ => rfl⟩
       simp only [Bool.and_eq_true] at hw
       have hDp : ∀ i x, ops[i]? = some x → ∀ j ∈ V.deps x, j < i := fun i x hx j hj => by
         have := depsOk_get (ops := ops) hw.2 i x (by rw [Array.getElem?_toList]; exact hx) j hj
         omega
       have hno : ∀ j, ¬ Done (Array.replicate ops.size false) j := by
         intro j h
         unfold Done at h
         simp only [Array.getD_eq_getD_getElem?, Array.getElem?_replicate] at h
         split at h <;> simp at h
       refine Go.wpIn_mono (wpIn_region_any hE.mixed (wpAnyX.plain _ (runTot_ok hE hW hr0 (hI R) hw.1 hDp hd (ds := ds) (T' := tms) (Q := Q) _ _ _ [] h (hs.grow (w' := w.drew) (fun _ _ => rfl)) hG hn (fun s' tm' g' w' a b c d => hQ .normal s' tm' g' w' ds a b (ht.trans c) d (hm.tr (ht.trans c))) (fun p s' tm' g' w' a b c d => hQ (.pan p) s' tm' g' w' ds a b (ht.trans c) d (hm.tr (ht.trans c))) (by simp) (fun k _ _ hk => absurd hk (hno k)) (fun _ h => nomatch h) (fun _ h => nomatch h) _ (by simp [left, List.countP_replicate])))) (fun _ _ _ h => h.imp)
      | false =>
      rw [htot, cond_false] at h hw
      exact region_ok hE hW (hI R) hE.mixed hw hd rfl h hs hG hn (fun s' tm' g' w' a b c d => hQ .normal s' tm' g' w' ds a b c d (hm.tr c)) (fun p s' tm' g' w' a b c d => hQ (.pan p) s' tm' g' w' ds a b c d (hm.tr c))
    | false =>
      simp only [runC, cond_false] at h
      refine wpIn_region ?_
      have := runOps_ok hE hW (hI R) (N := M) (n := n) (Q := Q) (K := K) ops.toList 0 rfl hd (hro.imp (fun h => h) (fun h => by simp only [noRange, Bool.and_eq_true] at h; exact h.1)) h hs hG hn (fun s' tm' g' w' ds' a b c d e => hQ .normal s' tm' g' w' ds' a b c d ((hm.go e).tr c)) (fun p s' tm' g' w' ds' a b c d e => hQ (.pan p) s' tm' g' w' ds' a b c d ((hm.go e).tr c))
      rw [Array.length_toList] at this
      rw [List.range_eq_range']
      exact this
  | seq a b iha ihb =>
    intro hd hw hl hro hcd R K r g s tm tms w Q ds h hs hG hn hm hN hQ
    simp only [dstsOk, Bool.and_eq_true] at hd
    simp only [drawsOk, Bool.and_eq_true] at hw
    simp only [runC] at h
    simp only [noRange, Bool.and_eq_true] at hro hN
    refine wpIn_seq (iha hd.1 hw.1 (fun b' hb' => hl b' (by simp [loopsOf, hb'])) (hro.imp id (·.1)) (fun x hx => hcd x (by simp [rangesOf, hx])) h hs hG hn hm (hN.imp id (·.1)) ?_)
    intro e s' tm' g' w' ds' hk hs' ht hn' hm'
    cases e with
    | normal => exact ihb hd.2 hw.2 (fun b' hb' => hl b' (by simp [loopsOf, hb'])) (hro.imp id (·.2)) (fun x hx => hcd x (by simp [rangesOf, hx])) hk hs' (hG.mono ht.fz) hn' hm' (hN.imp (fun h r hr => h r (Nat.le_trans ht.size hr)) (·.2)) (fun e s2 tm2 g2 w2 ds2 a b c d m => hQ e s2 tm2 g2 w2 ds2 a b (ht.trans c) d m)
    | exit id => exact hQ (.exit id) s' tm' g' w' ds' hk hs' ht hn' hm'
    | ret => exact hQ .ret s' tm' g' w' ds' hk hs' ht hn' hm'
    | pan p => exact hQ (.pan p) s' tm' g' w' ds' hk hs' ht hn' hm'
  | cond x a b iha ihb =>
    intro hd hw hl hro hcd R K r g s tm tms w Q ds h hs hG hn hm hN hQ
    simp only [dstsOk, Bool.and_eq_true] at hd
    simp only [drawsOk, Bool.and_eq_true] at hw
    simp only [noRange, Bool.and_eq_true] at hro hN
    simp only [runC] at h
    split at h
    · rename_i t hx
      have hcv : [Act.eval ⟨tm, ds⟩ x] = [Value.bool t] := ev_ok hs hG hx ds
      simp only [List.cons.injEq, and_true] at hcv
      cases t
      · exact wpIn_cond_false hcv (ihb hd.2 hw.2 (fun b' hb' => hl b' (by simp [loopsOf, hb'])) (hro.imp id (·.2)) (fun x hx => hcd x (by simp [rangesOf, hx])) h hs hG hn hm (hN.imp id (·.2)) hQ)
      · exact wpIn_cond_true hcv (iha hd.1 hw.1 (fun b' hb' => hl b' (by simp [loopsOf, hb'])) (hro.imp id (·.1)) (fun x hx => hcd x (by simp [rangesOf, hx])) h hs hG hn hm (hN.imp id (·.1)) hQ)
    · cases h
  | block id c ih =>
    intro hd hw hl hro hcd R K r g s tm tms w Q ds h hs hG hn hm hN hQ
    simp only [runC] at h
    refine wpIn_block (ih hd hw hl hro hcd h hs hG hn hm hN ?_)
    intro e s' tm' g' w' ds' hk hs' ht hn' hm'
    cases e with
    | normal => exact hQ .normal s' tm' g' w' ds' hk hs' ht hn' hm'
    | ret => exact hQ .ret s' tm' g' w' ds' hk hs' ht hn' hm'
    | pan p => exact hQ (.pan p) s' tm' g' w' ds' hk hs' ht hn' hm'
    | exit i =>
      simp only [Ex.to, Exit.inBlock]
      by_cases hi : i = id
      · subst hi
        rw [if_pos rfl]
        simp only [Nat.beq_refl, cond_true] at hk
        exact hQ .normal s' tm' g' w' ds' hk hs' ht hn' hm'
      · rw [if_neg hi]
        simp only [beq_false hi, cond_false] at hk
        exact hQ (.exit i) s' tm' g' w' ds' hk hs' ht hn' hm'
  | loop c ih =>
    intro hd hw hl hro hcd R K r g s tm tms w Q ds h hs hG hn hm hN hQ
    simp only [runC] at h
    split at h
    · rename_i l hfl
      obtain ⟨hok, step, h1, h2, h3⟩ := hl c (by simp [loopsOf]) l hfl
      simp only [LSpec.ok, Bool.and_eq_true] at hok
      unfold runLoop at h
      split at h
      · rename_i s1 hth
        obtain ⟨g1, hs1, t1⟩ := thawAll_ok hs hth
        obtain ⟨x, g2, h4, hs2, t2⟩ := dec_ok hok.1 hs1 h
        rw [Option.bind_eq_some_iff] at h4
        obtain ⟨o, ho, hK⟩ := h4
        obtain ⟨k0, hk0⟩ := h1 x o ho
        refine wpIn_loop_ghost (fun k a w1 => ∃ x g1, step k x = some o ∧ StR g1 (l.head.enc x) a.tmps (dfs a.defers ++ tms) w1 ∧ Tr g w g1 w1 ∧ a.tmps.size = n ∧ Mk N g1 w1 a.defers) k0 ⟨x, g2, hk0, hs2, t1.trans t2, hn, hm.tr (t1.trans t2)⟩ ?_
        rintro k ⟨tm1, ds1⟩ w1 ⟨x1, g3, hx1, hs3, t3, hn1, hm1⟩
        simp only at hs3 hn1 hm1
        cases k with
        | zero => rw [h2] at hx1; cases hx1
        | succ k =>
          have hb := h3 k x1 o hx1
          unfold runB at hb
          refine ih hd hw (fun b' hb' => hl b' (by simp [loopsOf, hb'])) hro hcd hb hs3 (hG.mono t3.fz) hn1 hm1 (hN.imp (fun h r hr => h r (Nat.le_trans t3.size hr)) id) ?_
          intro e s' tm' g' w' ds' hk hs' ht hn' hm'
          have out : ∀ e : Ex, decOut e s' l.outs = some o → Q e.to ⟨tm', ds'⟩ w' := by
            intro e hk
            obtain ⟨A, y, g4, h5, h6, h7⟩ := decOut_ok hs' hok.2 hk
            rw [h5] at hK
            exact hQ e _ tm' g4 w' ds' hK h6 ((t3.trans ht).trans h7) hn' (hm'.tr h7)
          cases e with
          | normal =>
            obtain ⟨x2, g4, h5, h6, h7⟩ := dec_ok hok.1 hs' hk
            exact ⟨k, Nat.lt_succ_self k, x2, g4, h5, h6, (t3.trans ht).trans h7, hn', hm'.tr h7⟩
          | exit i => exact out (.exit i) hk
          | ret => exact out .ret hk
          | pan p => exact out (.pan p) hk
      · cases h
    · -- round by round
      refine wpIn_loop_ghost (fun k a w1 => ∃ s1 g1, unroll (fun s K => runC E (inlineC E d) d f base c s K) k s1 K = some r ∧ StR g1 s1 a.tmps (dfs a.defers ++ tms) w1 ∧ Tr g w g1 w1 ∧ a.tmps.size = n ∧ Mk N g1 w1 a.defers) E.fuel ⟨s, g, h, hs, Tr.refl _ _, hn, hm⟩ ?_
      rintro k ⟨tm1, ds1⟩ w1 ⟨s1, g3, hx1, hs3, t3, hn1, hm1⟩
      simp only at hs3 hn1 hm1
      cases k with
      | zero => cases hx1
      | succ k =>
        refine ih hd hw (fun b' hb' => hl b' (by simp [loopsOf, hb'])) hro hcd hx1 hs3 (hG.mono t3.fz) hn1 hm1 (hN.imp (fun h r hr => h r (Nat.le_trans t3.size hr)) id) ?_
        intro e s' tm' g' w' ds' hk hs' ht hn' hm'
        cases e with
        | normal => exact ⟨k, Nat.lt_succ_self k, s', g', hk, hs', t3.trans ht, hn', hm'⟩
        | exit i => exact hQ (.exit i) _ tm' g' w' ds' hk hs' (t3.trans ht) hn' hm'
        | ret => exact hQ .ret _ tm' g' w' ds' hk hs' (t3.trans ht) hn' hm'
        | pan p => exact hQ (.pan p) _ tm' g' w' ds' hk hs' (t3.trans ht) hn' hm'
  | exit id => intro _ _ _ _ _ R K r g s tm tms w Q ds h hs hG hn hm hN hQ; exact wpIn_exit (hQ (.exit id) s tm g w ds h hs (Tr.refl _ _) hn hm)
  | ret => intro _ _ _ _ _ R K r g s tm tms w Q ds h hs hG hn hm hN hQ; exact wpIn_ret (hQ .ret s tm g w ds h hs (Tr.refl _ _) hn hm)
  | rangeFunc q ps a b =>
    intro hd hw hl hro hcd R K r g s tm tms w Q ds h hs hG hn hm hN hQ
    exact range_ok hE hW hI hnt (hro.resolve_right (fun h => nomatch h)) (hcd (rid a b, ⟨ps.toList, a, b, nt⟩) (by simp [rangesOf])) h hs hG hn hm (hN.resolve_right (fun h => nomatch h)) hQ
  | scope c => intro _ _ _ _ _ R K r g s tm tms w Q ds h; simp [runC] at h
  | label l => intro _ _ _ _ _ R K r g s tm tms w Q ds h; simp [runC] at h
  | goto l => intro _ _ _ _ _ R K r g s tm tms w Q ds h; simp [runC] at h
  | refuse l => intro _ _ _ _ _ R K r g s tm tms w Q ds h; simp [runC] at h
def resOne (tm : Array Value) : ResultVar → Sem Value
 | .tmp t => pure (tm.getD t undef)
 | .cell a t => do loadVar t (← asAddr (tm.getD a undef))
theorem results_ok (hC : CfgOK E.C P) {g : Gh} {s : St} {tm : Array Value} {tms : List (Array Value)} {w : World} (hs : StR g s tm tms w) : ∀ {l : List ResultVar} {vs : List AV}, resOf E.C s l = some vs →
  ∃ cs, (l.mapM (resOne tm)).run P w = .ok cs w ∧ VsR g vs cs ∧ vs.all AV.okGs = true
 | [], vs, h => by
  simp only [resOf, Option.some.injEq] at h
  subst h
  exact ⟨[], rfl, trivial, rfl⟩
 | .tmp t :: l, vs, h => by
  simp only [resOf] at h
  split at h
  ·rename_i v hv
   cases hk : v.okGs
   ·rw [hk] at h; cases h
   ·rw [hk] at h
    simp only [cond_true, Option.map_eq_some_iff] at h
    obtain ⟨r, hr, rfl⟩ := h
    obtain ⟨cs, h1, h2, h3⟩ := results_ok hC hs hr
    refine ⟨tm.getD t undef :: cs, ?_, ⟨hs.env t v hv, h2⟩, by simp [hk, h3]⟩
    have h6 : (resOne tm (.tmp t)).run P w = .ok (tm.getD t undef) w := rfl
    rw [List.mapM_cons, Sem.run_bind, h6, Result.andThen_ok, Sem.run_bind, h1]
    rfl
  ·cases h
 | .cell a t :: l, vs, h => by
  simp only [resOf] at h
  split at h
  ·rename_i p hp
   split at h
   ·rename_i c v e hv
    cases hk : v.okGs
    ·rw [hk] at h; cases h
    ·rw [hk] at h
     simp only [cond_true, Option.map_eq_some_iff] at h
     obtain ⟨r, hr, rfl⟩ := h
     obtain ⟨cs, h1, h2, h3⟩ := results_ok hC hs hr
     obtain ⟨_, y, h4, h5⟩ := loadV_ok hC hs hv (hs.env a p hp)
     refine ⟨y :: cs, ?_, ⟨h5.vr', h2⟩, by simp [hk, h3]⟩
     have h6 : (resOne tm (.cell a t)).run P w = .ok y w := by
      show (do loadVar t (← asAddr (tm.getD a undef)) : Sem Value).run P w = .ok y w
      have hpt : ∃ ad, tm.getD a undef = .pointer (some ad) := by
       refine ptr_form (hs.env a p hp) ?_
       unfold loadV at hv
       split at hv <;> first | rfl | (cases hv)
      obtain ⟨ad, had⟩ := hpt
      rw [had] at h4 ⊢
      have e1 : (Instr.sureAddr (.pointer (some ad))).run P w = .ok ad w := rfl
      have e2 : (asAddr (.pointer (some ad))).run P w = .ok ad w := rfl
      unfold Instr.loadAt at h4
      rw [Sem.run_bind, e1] at h4
      rw [Sem.run_bind, e2]
      exact h4
     rw [List.mapM_cons, Sem.run_bind, h6, Result.andThen_ok, Sem.run_bind, h1]
     rfl
   ·cases h
  ·cases h
theorem run_results {fn : Func} {tm : Array Value} {w : World} {cs : List Value}
  (h : (fn.results.toList.mapM (resOne tm)).run P w = .ok cs w) : (results fn tm).run P w = .ok (resVal cs) w := by
 have e0 : results fn tm = (do let vs ← fn.results.mapM (resOne tm); pure (if h : vs.size = 1 then vs[0] else .tuple vs)) := rfl
 rw [e0, Array.mapM_eq_mapM_toList, Sem.run_bind, Sem.run_map, h]
 simp only [Result.andThen_ok, Sem.run_pure]
 match cs with
 | [] => rfl
 | [c] => rfl
 | c :: d :: l => simp [resVal]
theorem envR_params {g : Gh} {args : List AV} {vals : Array Value} (h : VsR g args vals.toList) (k : Nat) : EnvR g (params 0 args) (vals ++ Array.replicate k undef) := by
 intro n v e
 obtain ⟨i, e1, c, h1, h2⟩ := params_ok h n v e
 have : i = n := by omega
 subst this
 have hlt : i < vals.size := by
  rw [← Array.length_toList]
  exact (List.getElem?_eq_some_iff.1 h1).1
 rw [Array.getD_eq_getD_getElem?, Array.getElem?_append_left hlt, ← Array.getElem?_toList, h1]
 exact h2
theorem enter_of (hE : EnvOK P E) {f : Nat} {fn : Func} (h : find E.F f = some fn) : Enterable P f := by
 obtain ⟨h1, h2⟩ := hE.func f fn h
 unfold funOk at h2
 split at h2
 ·rename_i c hc
  simp only [Bool.and_eq_true, Bool.not_eq_true'] at h2
  exact ⟨fn, h1, h2.2, by rw [hc]; rfl⟩
 ·cases h2
theorem funOk_of {tot : List Nat} {fn : Func} {c : Code} (h : funOk tot fn = true) (hb : fn.body = some c) : dstsOk fn.ntmps c = true ∧ drawsOk tot c = true ∧ idsOk ((rangesOf fn.ntmps c).map (·.1)) = true := by
 unfold funOk at h
 rw [hb] at h
 simp only [Bool.and_eq_true] at h
 exact ⟨h.1.1.1.1.1, h.1.1.1.1.2, h.1.1.2⟩
theorem codes_of (hE : EnvOK P E) {f : Nat} {fn : Func} {c : Code} (hf : find E.F f = some fn) (hb : fn.body = some c) : ∀ x ∈ rangesOf fn.ntmps c, Codes.cd f x.1 = some x.2 := by
 intro x hx
 rw [hE.codes f fn c hf hb]
 exact mem_find (funOk_of (hE.func f fn hf).2 hb).2.2 hx
theorem no_defers {g : Gh} {w : World} {ds : List Deferred} (h : Mk (fun _ => False) g w ds) {e : Env} {l : List Env} {tms : List (Array Value)} {b : Nat} (hs : StkR g (e :: l) (dfs ds ++ tms)) (hy : isYld e b = true) : ds = [] := by
 cases ds with
 | nil => rfl
 | cons d ds =>
  rcases h.mem d (by simp) with ⟨_, _, hf, _⟩ | ⟨f, cap, args, rfl⟩
  ·exact hf.elim
  ·obtain ⟨_, _, _, _, _, e1⟩ := hs.1 0 _ (isYld_ok hy)
   simp [frameOf] at e1
theorem round_ok (hE : EnvOK P E) {d base : Nat} (hI : ∀ R : Type, InlOK (R := R) P E (inlineC E d)) {R : Type} {b f id : Nat} {env : Env} {fn : Func} {c : Code} {cd : LCode} {args : List AV} {s : St} {K : AV → St → Option R} {r : R} {g : Gh} {tm : Array Value} {tms : List (Array Value)} {w : World} {l : Nat}
    (hf : find E.F f = some fn) (hb : fn.body = some c) (hx : (id, cd) ∈ rangesOf fn.ntmps c) (hna : noRange (E.totOf f) cd.assign = true) (hnb : noRange (E.totOf f) cd.body = true)
    (h : (runC E (inlineC E d) d f (base * 1000) cd.assign { env := putL cd.ps args env, stk := [(0, .yld b)] :: s.env :: s.stk, bxs := s.bxs } fun e s1 => match e, s1.stk, find s1.bxs b with
      | .normal, e0 :: _, some (.loop false f1 i1 env1) => bif isYld e0 b && (Nat.beq f1 f && Nat.beq i1 id) then
          runC E (inlineC E d) d f (base * 1000) cd.body { s1 with bxs := setB s1.bxs b (.loop true f id env1) } fun e s2 => match e, s2.stk, find s2.bxs b with
            | .normal, e1 :: env0 :: stk, some (.loop true f2 i2 env2) => bif isYld e1 b && (Nat.beq f2 f && Nat.beq i2 id) then K (.val .bool true) { env := env0, stk := stk, bxs := setB s2.bxs b (.loop false f id env2) } else none
            | _, _, _ => none
        else none
      | _, _, _ => none) = some r)
    {tm0 : Array Value} (he : EnvR g (putL cd.ps args env) tm0) (hn0 : fn.ntmps ≤ tm0.size) (hs : StR g s tm tms w) (hG : GlobOK E.C g.fz) (hy0 : VR g (.yld b) (.func (.yield l) #[] #[])) {F : Fence} {n : Nat} (hW : Wide F) (fr : FuncId) :
    RoundIn F n P l fr tm0 cd.assign cd.body w fun e w' => ∃ v av s' g', e = .returned v ∧ K av s' = some r ∧ VR g' av v ∧ StR g' s' tm tms w' ∧ Tr g w g' w' := by
  have hfo := funOk_of (hE.func f fn hf).2 hb
  obtain ⟨d1, d2, d3⟩ := rangesOf_dsts hfo.1 hx
  obtain ⟨w1, w2⟩ := rangesOf_draws hfo.2.1 hx
  obtain ⟨l1, l2⟩ := rangesOf_loops hx
  refine roundIn_of_wpIn (hW.fn fr) ?_
  have hs0 : StR g { env := putL cd.ps args env, stk := [(0, .yld b)] :: s.env :: s.stk, bxs := s.bxs } tm0 (#[.func (.yield l) #[] #[]] :: tm :: tms) w := by
    refine ⟨he, ⟨fun m v e => ?_, hs.env, hs.stk⟩, hs.bxs, hs.fz⟩
    by_cases hm : 0 = m
    · subst hm
      rw [find_cons_same] at e
      cases e
      exact hy0
    · rw [find_cons_other _ _ hm] at e; cases e
  have loops : ∀ cb : Code, (∀ x ∈ loopsOf cb, x ∈ loopsOf c) → ∀ x ∈ loopsOf cb, ∀ l, findL E.L ⟨d, base * 1000, f, firstRegion x⟩ = some l → LoopOK E d f (base * 1000) x l :=
    fun cb hsub x hx l hl => hE.loop d _ f fn c x l hf hb (hsub x hx) hl
  have noRanges : ∀ cb : Code, noRange (E.totOf f) cb = true → ∀ x ∈ rangesOf fn.ntmps cb, Codes.cd f x.1 = some x.2 := by
    intro cb hcb x hx
    have : ∀ {cb : Code}, noRange (E.totOf f) cb = true → rangesOf fn.ntmps cb = [] := by
      intro cb
      induction cb with
      | seq a b iha ihb => intro h; simp only [noRange, Bool.and_eq_true] at h; simp only [rangesOf, iha h.1, ihb h.2, List.append_nil]
      | cond q a b iha ihb => intro h; simp only [noRange, Bool.and_eq_true] at h; simp only [rangesOf, iha h.1, ihb h.2, List.append_nil]
      | block id c ih => intro h; exact ih h
      | loop c ih => intro h; exact ih h
      | rangeFunc q ps a b _ _ => intro h; cases h
      | _ => intro _; rfl
    rw [this hcb] at hx
    cases hx
  refine runC_ok hE (hW.inRound l) (N := fun _ => False) (ds := []) (tms := #[.func (.yield l) #[] #[]] :: tm :: tms) hI hn0 cd.assign (dstsOk_mono hn0 d2) w1 (loops _ l1) (.inr hna) (noRanges _ hna) h hs0 hG rfl Mk.nil (.inr hna) ?_
  intro e s1 tm1 g1 w1' ds1 hk hs1 t1 hn1 hm1
  dsimp only at hk
  split at hk
  · rename_i e0 rest f1 i1 env1 hst hbx
    cases hc : (isYld e0 b && (Nat.beq f1 f && Nat.beq i1 id)) with
    | false => rw [hc] at hk; cases hk
    | true =>
      rw [hc, cond_true] at hk
      simp only [Bool.and_eq_true] at hc
      have hf1 := Nat.eq_of_beq_eq_true hc.2.1
      have hi1 := Nat.eq_of_beq_eq_true hc.2.2
      subst hf1 hi1
      have hstk1 := hs1.stk
      rw [hst] at hstk1
      have hds1 : ds1 = [] := no_defers hm1 hstk1 hc.1
      subst hds1
      obtain ⟨gb1, q1, q2, q3⟩ := yld_blk (hstk1.1 0 _ (isYld_ok hc.1)) rfl
      obtain ⟨gb1', p1, p2⟩ := hs1.bxs.box _ _ hbx
      rw [q1] at p1
      cases p1
      obtain ⟨p3, p4, l', tmr, D, fnr, cdr, p5, p6, p7, p8, p9, p10⟩ := p2
      rw [q3] at p5
      cases p5
      have hlt := (Array.getElem?_eq_some_iff.1 p7).1
      refine ⟨_, run_beginRound p7 rfl, ?_⟩
      obtain ⟨w2', hw2⟩ : ∃ w2', w1'.putObj l (.loop { state := .busy, pending := none, fn := fnr, tmps := tmr, params := cdr.ps.toArray, assign := cdr.assign, body := cdr.body, defers := D }) = w2' := ⟨_, rfl⟩
      obtain ⟨hs2, t2⟩ := hs1.upd q1 q3 p4 p10 (w' := w2') (by rw [← hw2]; rfl) (by rw [← hw2]; rfl) (by rw [← hw2]; rfl) (by rw [← hw2]; simp [World.putObj]) (fun b hb _ => by rw [← hw2]; exact World.putObj_heap_other hb) (.loop true f1 i1 env1)
        ⟨p3, p4, l, tmr, D, fnr, cdr, q3, p6, by rw [← hw2]; exact World.putObj_heap_same hlt, p8, p9, p10⟩
      have hw2' : w1'.putObj l (.loop { state := .busy, pending := none, fn := fnr, tmps := tmr, params := cdr.ps.toArray, assign := cdr.assign, body := cdr.body, defers := D }) = w2' := hw2
      show cd.body.wpIn (F.inRound l) n P _ ⟨tm1, []⟩ (w1'.putObj l (.loop { state := .busy, pending := none, fn := fnr, tmps := tmr, params := cdr.ps.toArray, assign := cdr.assign, body := cdr.body, defers := D }))
      rw [hw2']
      have tt := t1.trans t2
      refine runC_ok hE (hW.inRound l) (N := fun _ => False) (ds := []) (tms := #[.func (.yield l) #[] #[]] :: tm :: tms) hI (n := tm1.size) (by rw [hn1]; exact hn0) cd.body (dstsOk_mono (by rw [hn1]; exact hn0) d3) w2 (loops _ l2) (.inr hnb) (noRanges _ hnb) hk hs2 (hG.mono tt.fz) rfl (hm1.tr t2) (.inr hnb) ?_
      intro e s2 tm2 g2 w3 ds2 hk2 hs3 t3 _ hm2
      dsimp only at hk2
      split at hk2
      · rename_i e1 env0 stk f2 i2 env2 hst2 hbx2
        cases hc2 : (isYld e1 b && (Nat.beq f2 f1 && Nat.beq i2 i1)) with
        | false => rw [hc2] at hk2; cases hk2
        | true =>
          rw [hc2, cond_true] at hk2
          simp only [Bool.and_eq_true] at hc2
          have hf2 := Nat.eq_of_beq_eq_true hc2.2.1
          have hi2 := Nat.eq_of_beq_eq_true hc2.2.2
          subst hf2 hi2
          have hstk2 := hs3.stk
          rw [hst2] at hstk2
          have hds2 : ds2 = [] := no_defers hm2 hstk2 hc2.1
          subst hds2
          obtain ⟨gb2, r1, r2, r3⟩ := yld_blk (hstk2.1 0 _ (isYld_ok hc2.1)) rfl
          obtain ⟨gb2', u1, u2⟩ := hs3.bxs.box _ _ hbx2
          rw [r1] at u1
          cases u1
          obtain ⟨u3, u4, l'', tmr2, D2, fnr2, cdr2, u5, u6, u7, u8, u9, u10⟩ := u2
          rw [r3] at u5
          cases u5
          have hlt2 := (Array.getElem?_eq_some_iff.1 u7).1
          obtain ⟨w4, hw4⟩ : ∃ w4, w3.putObj l (.loop { state := .ready, pending := none, fn := fnr2, tmps := tmr2, params := cdr2.ps.toArray, assign := cdr2.assign, body := cdr2.body, defers := D2 }) = w4 := ⟨_, rfl⟩
          obtain ⟨hs4, t4⟩ := hs3.upd r1 r3 u4 u10 (w' := w4) (by rw [← hw4]; rfl) (by rw [← hw4]; rfl) (by rw [← hw4]; rfl) (by rw [← hw4]; simp [World.putObj]) (fun b hb _ => by rw [← hw4]; exact World.putObj_heap_other hb) (.loop false f2 i2 env2)
            ⟨u3, u4, l, tmr2, D2, fnr2, cdr2, r3, u6, by rw [← hw4]; exact World.putObj_heap_same hlt2, u8, u9, u10⟩
          refine ⟨.bool true, w4, ?_, _, _, _, g2, rfl, hk2, rfl, ⟨hstk2.2.1, hstk2.2.2, hs4.bxs, hs4.fz⟩, tt.trans (t3.trans t4)⟩
          rw [← hw4]
          exact run_endRound none u7
      · cases hk2
  · cases hk
def Md.mode : Md → FrameMode
 | .ret => .returning
 | .pan p => .panicking [Pan.entry p]
 | .rcv p => .panicking [{ Pan.entry p with recovered := true }]
theorem vsR_of_tsR {g : Gh} : ∀ {vs : List AV} {cs : List Value}, TsR g vs cs → VsR g vs cs
 | [], [], _ => trivial
 | _ :: _, _ :: _, ⟨h1, h2⟩ => ⟨h1.vr', vsR_of_tsR h2⟩
 | [], _ :: _, h => h.elim
 | _ :: _, [], h => h.elim
theorem pan_av {g : Gh} (p : Pan) : VR g p.av (.iface p.t p.v.val) := by
 obtain ⟨t, v⟩ := p
 cases v <;> exact ⟨_, rfl, rfl⟩
theorem runOpsD_ok (hE : EnvOK P E) {F : Fence} (hW : Wide F) {M base n : Nat} {R : Type} {ops : Array Oper} {K : Md → St → Option R} {r : R} {c₀ : Frame} {cs : List Frame} {Q : Exit → Act → List Frame → World → Prop} {tms : List (Array Value)} :
  ∀ (rest : List Oper) (k : Nat), ops.toList.drop k = rest → rest.all (dstOk n) = true → ∀ {m : Md} {g : Gh} {s : St} {tm : Array Value} {w : World}, runOpsD E base rest m s K = some r → StR g s tm tms w → GlobOK E.C g.fz → tm.size = n →
   (∀ m' s' tm' g' w', K m' s' = some r → StR g' s' tm' tms w' → Tr g w g' w' → tm'.size = n → Q .normal ⟨tm', []⟩ ({ c₀ with mode := m'.mode } :: cs) w') → wpOpsSIn F M P ops Q (List.range' k rest.length) ⟨tm, []⟩ ({ c₀ with mode := m.mode } :: cs) w
 | [], k, _, _, m, g, s, tm, w, h, hs, _, hn, hQ => hQ m s tm g w h hs (Tr.refl _ _) hn
 | o :: rest, k, hd, hall, m, g, s, tm, w, h, hs, hG, hn, hQ => by
  simp only [List.all_cons, Bool.and_eq_true] at hall
  have hlt := dstOk_lt hall.1
  have hok : ops[k]? = some o := by
   have : ops.toList[k]? = some o := by
    have := congrArg (fun l => l[0]?) hd
    simpa using this
   rw [← Array.getElem?_toList]; exact this
  have hd' : ops.toList.drop (k + 1) = rest := by
   rw [← List.drop_drop, hd]; rfl
  have go : ∀ {m1 : Md} {g1 : Gh} {s1 : St} {w1 : World} {v : AV} {z : Value}, runOpsD E base rest m1 { s1 with env := putE o.dst v s1.env } K = some r → StR g1 s1 tm tms w1 → VR g1 v z → Tr g w g1 w1 → wpOpsSIn F M P ops Q (List.range' (k + 1) rest.length) (Act.put ⟨tm, []⟩ o.dst z) ({ c₀ with mode := m1.mode } :: cs) w1 := by
   intro m1 g1 s1 w1 v z h1 hs1 hv ht1
   rw [put_defers]
   exact runOpsD_ok hE hW rest (k + 1) hd' hall.2 h1 (hs1.put (fun d hd => by rw [hn]; exact hlt d hd) hv []) (hG.mono ht1.fz) (by rw [put_size]; exact hn) (fun m' s' tm' g' w' a b c d => hQ m' s' tm' g' w' a b (ht1.trans c) d)
  simp only [List.length_cons, List.range'_succ, wpOpsSIn, hok]
  simp only [runOpsD] at h
  refine ⟨fun f _ => hW.fn f, ?_⟩
  split at h
  ·cases h
  ·rename_i hg
   have hw : Region.wanted o (yielded ops tm) = true := by simp [Region.wanted, hg]
   rw [if_pos hw]
   split at h
   ·rename_i args ats hop
    have hr : (execOp (Act.eval ⟨tm, []⟩) o).run P w = .ok .recover w := by
     simp only [execOp, hop, resolve, Sem.run_bind, Sem.run_pure, Result.andThen_ok, invoke, builtin]
    rw [hr]
    split at h
    ·rename_i p
     exact go h hs (pan_av p) (Tr.refl _ _)
    ·rename_i hm
     cases m with
     | pan p => exact absurd rfl (hm p)
     | ret => exact go h hs rfl (Tr.refl _ _)
     | rcv p => exact go h hs rfl (Tr.refl _ _)
   ·split at h
    ·rename_i c v e hx
     cases c with
     | false => simp at h
     | true =>
      simp only [cond_true] at h
      obtain ⟨n', w', g', h1, h2, h3, h4⟩ := execA_ok hE.cfg hs hG hx []
      rw [h1]
      rcases h2 with ⟨z, rfl, h2⟩ | ⟨rfl, h2⟩
      ·exact go h h3 h2 h4
      ·exact go h h3 h2 h4
    ·cases h
theorem runCD_ok (hE : EnvOK P E) {F : Fence} (hW : Wide F) (hround : F.round = none) {M nt : Nat} {d f base n : Nat} (hI : ∀ R : Type, InlOK (R := R) P E (inlineC E d)) (hnt : nt ≤ n) {R : Type} {r : R} {c₀ : Frame} {cs : List Frame} {tms : List (Array Value)} : ∀ (c : Code), dstsOk n c = true → drawsOk (E.totOf f) c = true →
  (∀ b ∈ loopsOf c, ∀ l, findL E.L ⟨d, base, f, firstRegion b⟩ = some l → LoopOK E d f base b l) → (∀ x ∈ rangesOf nt c, Codes.cd f x.1 = some x.2) →
  ∀ {K : Ex → Md → St → Option R} {m : Md} {g : Gh} {s : St} {tm : Array Value} {w : World} {Q : Exit → Act → List Frame → World → Prop},
   runCD E (inlineC E d) d f base c m s K = some r → StR g s tm tms w → GlobOK E.C g.fz → tm.size = n →
   (∀ e m' s' tm' g' w', K e m' s' = some r → StR g' s' tm' tms w' → Tr g w g' w' → tm'.size = n → Q e.to ⟨tm', []⟩ ({ c₀ with mode := m'.mode } :: cs) w') → c.wpSIn F M P Q ⟨tm, []⟩ ({ c₀ with mode := m.mode } :: cs) w := by
 have other : ∀ (c : Code), dstsOk n c = true → drawsOk (E.totOf f) c = true →
  (∀ b ∈ loopsOf c, ∀ l, findL E.L ⟨d, base, f, firstRegion b⟩ = some l → LoopOK E d f base b l) → (∀ x ∈ rangesOf nt c, Codes.cd f x.1 = some x.2) →
  ∀ {K : Ex → Md → St → Option R} {m : Md} {g : Gh} {s : St} {tm : Array Value} {w : World} {Q : Exit → Act → List Frame → World → Prop}, (bif noRange (E.totOf f) c then runC E (inlineC E d) d f base c s fun e s' => bif Nat.beq s'.stk.length s.stk.length then K e m s' else none else none) = some r → StR g s tm tms w → GlobOK E.C g.fz → tm.size = n →
   (∀ e m' s' tm' g' w', K e m' s' = some r → StR g' s' tm' tms w' → Tr g w g' w' → tm'.size = n → Q e.to ⟨tm', []⟩ ({ c₀ with mode := m'.mode } :: cs) w') → c.wpSIn F M P Q ⟨tm, []⟩ ({ c₀ with mode := m.mode } :: cs) w := by
  intro c hd hw hl hcd K m g s tm w Q h hs hG hn hQ
  cases hnr : noRange (E.totOf f) c with
  | false => rw [hnr] at h; cases h
  | true =>
   rw [hnr, cond_true] at h
   refine wpSIn_of_wpIn hround (runC_ok hE hW (N := fun _ => False) (ds := []) (tms := tms) hI hnt c hd hw hl (.inl hround) hcd h hs hG hn Mk.nil (.inr hnr) ?_)
   intro e s' tm' g' w' ds' hk hs' ht hn' hm'
   dsimp only at hk
   cases hb : Nat.beq s'.stk.length s.stk.length with
   | false => rw [hb] at hk; cases hk
   | true =>
    rw [hb, cond_true] at hk
    have hlen := Nat.eq_of_beq_eq_true hb
    have h1 := hs'.stk.length
    have h2 := hs.stk.length
    rw [List.length_append] at h1
    have hds : ds' = [] := hm'.none (List.eq_nil_of_length_eq_zero (by omega))
    subst hds
    exact hQ e m s' tm' g' w' hk hs' ht hn'
 intro c
 induction c with
 | seq a b iha ihb =>
  intro hd hw hl hcd K m g s tm w Q h hs hG hn hQ
  simp only [dstsOk, Bool.and_eq_true] at hd
  simp only [drawsOk, Bool.and_eq_true] at hw
  simp only [runCD] at h
  refine wpSIn_seq (iha hd.1 hw.1 (fun b' hb' => hl b' (by simp [loopsOf, hb'])) (fun x hx => hcd x (by simp [rangesOf, hx])) h hs hG hn ?_)
  intro e m' s' tm' g' w' hk hs' ht hn'
  cases e with
  | normal => exact ihb hd.2 hw.2 (fun b' hb' => hl b' (by simp [loopsOf, hb'])) (fun x hx => hcd x (by simp [rangesOf, hx])) hk hs' (hG.mono ht.fz) hn' (fun e m2 s2 tm2 g2 w2 a b c d => hQ e m2 s2 tm2 g2 w2 a b (ht.trans c) d)
  | exit id => exact hQ (.exit id) m' s' tm' g' w' hk hs' ht hn'
  | ret => exact hQ .ret m' s' tm' g' w' hk hs' ht hn'
  | pan p => exact hQ (.pan p) m' s' tm' g' w' hk hs' ht hn'
 | cond x a b iha ihb =>
  intro hd hw hl hcd K m g s tm w Q h hs hG hn hQ
  simp only [dstsOk, Bool.and_eq_true] at hd
  simp only [drawsOk, Bool.and_eq_true] at hw
  simp only [runCD] at h
  split at h
  ·rename_i t hx
   have hcv : [Act.eval ⟨tm, []⟩ x] = [Value.bool t] := ev_ok hs hG hx []
   simp only [List.cons.injEq, and_true] at hcv
   refine wpSIn_cond hcv ?_
   cases t
   ·exact ihb hd.2 hw.2 (fun b' hb' => hl b' (by simp [loopsOf, hb'])) (fun x hx => hcd x (by simp [rangesOf, hx])) h hs hG hn hQ
   ·exact iha hd.1 hw.1 (fun b' hb' => hl b' (by simp [loopsOf, hb'])) (fun x hx => hcd x (by simp [rangesOf, hx])) h hs hG hn hQ
  ·cases h
 | region id ops dr =>
  intro hd hw hl hcd K m g s tm w Q h hs hG hn hQ
  simp only [runCD] at h
  cases hb : (hasRecover ops && !dr) with
  | false => rw [hb] at h; exact other _ hd hw hl hcd h hs hG hn hQ
  | true =>
   rw [hb, cond_true] at h
   simp only [Bool.and_eq_true, Bool.not_eq_true'] at hb
   rw [hb.2]
   refine wpSIn_region ?_
   have := runOpsD_ok hE hW (M := M) (n := n) (Q := Q) (c₀ := c₀) (cs := cs) ops.toList 0 rfl hd h hs hG hn (fun m' s' tm' g' w' a b c d => hQ .normal m' s' tm' g' w' a b c d)
   rw [Array.length_toList] at this
   rw [List.range_eq_range']
   exact this
 | skip => intro hd hw hl hcd K m g s tm w Q h hs hG hn hQ; simp only [runCD] at h; exact other _ hd hw hl hcd h hs hG hn hQ
 | block id c _ => intro hd hw hl hcd K m g s tm w Q h hs hG hn hQ; simp only [runCD] at h; exact other _ hd hw hl hcd h hs hG hn hQ
 | loop c _ => intro hd hw hl hcd K m g s tm w Q h hs hG hn hQ; simp only [runCD] at h; exact other _ hd hw hl hcd h hs hG hn hQ
 | rangeFunc q ps a b _ _ => intro hd hw hl hcd K m g s tm w Q h hs hG hn hQ; simp only [runCD] at h; exact other _ hd hw hl hcd h hs hG hn hQ
 | exit id => intro hd hw hl hcd K m g s tm w Q h hs hG hn hQ; simp only [runCD] at h; exact other _ hd hw hl hcd h hs hG hn hQ
 | scope c _ => intro hd hw hl hcd K m g s tm w Q h hs hG hn hQ; simp only [runCD] at h; exact other _ hd hw hl hcd h hs hG hn hQ
 | label l => intro hd hw hl hcd K m g s tm w Q h hs hG hn hQ; simp only [runCD] at h; exact other _ hd hw hl hcd h hs hG hn hQ
 | goto l => intro hd hw hl hcd K m g s tm w Q h hs hG hn hQ; simp only [runCD] at h; exact other _ hd hw hl hcd h hs hG hn hQ
 | ret => intro hd hw hl hcd K m g s tm w Q h hs hG hn hQ; simp only [runCD] at h; exact other _ hd hw hl hcd h hs hG hn hQ
 | refuse l => intro hd hw hl hcd K m g s tm w Q h hs hG hn hQ; simp only [runCD] at h; exact other _ hd hw hl hcd h hs hG hn hQ
def Fin (P : Program) (fn : Func) (R : Ending → World → Prop) (tm : Array Value) (w : World) : Md → Prop
 | .ret => ∃ v, (results fn tm).run P w = .ok v w ∧ R (.returned v) w
 | .pan p => R (.panicked [Pan.entry p]) w
 | .rcv _ => True
theorem leaveC_ok (hE : EnvOK P E) {d base : Nat} (hI : ∀ R : Type, InlOK (R := R) P E (inlineC E d)) {X : Type} {r : X} {K : Md → St → Option X} {fn : Func} {tm : Array Value} {R : Ending → World → Prop} {tms : List (Array Value)} {g0 : Gh} {w0 : World} (hG0 : GlobOK E.C g0.fz)
  (fin : ∀ m s g w, K m s = some r → StR g s tm tms w → Tr g0 w0 g w → Fin P fn R tm w m) :
  ∀ (ds : List Deferred) (n : Nat) (m : Md) (s : St) (g : Gh) (w : World), n = (dfs ds).length → leaveC E (inlineC E d) d base K n m s = some r → (∀ p, m ≠ .rcv p) → StR g s tm (dfs ds ++ tms) w → Tr g0 w0 g w → Mk (fun r => w0.heap.size ≤ r) g w ds → LeavesInM Fence.wide 0 P fn tm R ds m.mode w
 | [], n, m, s, g, w, hn, h, hm, hs, ht, _ => by
  subst hn
  have := fin m s g w h hs ht
  cases m with
  | ret => exact this
  | pan p => exact this
  | rcv p => exact absurd rfl (hm p)
 | d1 :: ds, n, m, s, g, w, hn, h, hm, hs, ht, hk => by
  have hmode : m.mode ≠ .run := by cases m <;> exact fun h => nomatch h
  have ap := List.pairwise_cons.1 hk.apart
  rcases hk.mem d1 (by simp) with ⟨r1, rfl, e2, e3, e4⟩ | ⟨f, cap, args, rfl⟩
  ·refine ⟨hmode, .inl ⟨r1, _, rfl, run_takeDeferred e3, ?_⟩⟩
   refine leaveC_ok hE hI hG0 fin ds n m s g _ hn h hm (hs.putOther e3 e4 _) (ht.putOther e2 _) ⟨fun d' hd' => ?_, ap.2⟩
   rcases hk.mem d' (by simp [hd']) with ⟨r', rfl, k2, k3, k4⟩ | h'
   ·have hne : r' ≠ r1 := fun e => ap.1 _ hd' r1 rfl (by rw [e])
    exact .inl ⟨r', rfl, k2, (World.putObj_heap_other hne).trans k3, k4⟩
   ·exact .inr h'
  ·have hdf : dfs ({ target := .fn (.func f) cap, args := args } :: ds) = #[.tuple (#[.func (.func f) #[] cap] ++ args)] :: dfs ds := rfl
   rw [hdf] at hn hs
   subst hn
   simp only [List.length_cons, leaveC] at h
   split at h
   ·rename_i dfr stk hst
    have hstk := hs.stk
    rw [hst] at hstk
    split at h
    ·rename_i f' caps vs hfd
     have hv := hstk.1 0 _ hfd
     obtain ⟨arr, ha1, ha2⟩ := hv
     have harr : arr = #[.func (.func f) #[] cap] ++ args := by
      have : (#[Value.tuple (#[.func (.func f) #[] cap] ++ args)] : Array Value).getD 0 undef = .tuple (#[.func (.func f) #[] cap] ++ args) := rfl
      rw [this] at ha1
      exact (Value.tuple.inj ha1).symm
     subst harr
     simp only [Array.toList_append, List.cons_append, List.nil_append] at ha2
     obtain ⟨⟨cv, hcv, hcaps⟩, hvs⟩ := ha2
     simp only [List.cons.injEq, and_true, Value.func.injEq, Fn.func.injEq, true_and] at hcv
     obtain ⟨rfl, rfl⟩ := hcv
     split at h
     ·rename_i fd hfd
      split at h
      ·rename_i cd hcd
       have hen := enter_of hE hfd
       obtain ⟨hfn, hfo⟩ := hE.func f fd hfd
       have hd := funOk_of hfo hcd
       refine ⟨hmode, .inr ⟨(fun h => nomatch h), .func f, cap, f, args ++ cap, rfl, run_callFunc hen _ _, (fun _ _ => trivial), ?_⟩⟩
       refine callsDIn_of_wpSIn hfn hcd trivial ?_
       intro c₀ cs hc₀
       have hc : ({ c₀ with mode := m.mode } : Frame) = c₀ := by rw [← hc₀]
       have hall : VsR g (vs ++ caps) (args ++ cap).toList := by
        rw [Array.toList_append]
        exact (vsR_of_tsR hvs).append hcaps.vsR
       have hs0 : StR g { env := params 0 (vs ++ caps), stk := s.env :: stk, bxs := s.bxs } ((args ++ cap) ++ Array.replicate (fd.ntmps - (args ++ cap).size) undef) (tm :: (dfs ds ++ tms)) w := ⟨envR_params hall _, ⟨hs.env, hstk.2⟩, hs.bxs, hs.fz⟩
       have main := runCD_ok hE .base rfl (M := 0 - 1) (nt := fd.ntmps) (n := ((args ++ cap) ++ Array.replicate (fd.ntmps - (args ++ cap).size) undef).size) hI (by simp; omega) (c₀ := c₀) (cs := cs) cd (dstsOk_mono (by simp; omega) hd.1) hd.2.1 (fun b hb' l hl => hE.loop d _ f fd cd b l hfd hcd hb' hl) (codes_of hE hfd hcd) (Q := bodyPostS P fd c₀ cs fun
        | .returned _, u', w' => LeavesInM Fence.wide 0 P fn tm R ds (settle u') w'
        | .panicked chain, u', w' => LeavesInM Fence.wide 0 P fn tm R ds (raised u' chain) w'
        | .outgrown, _, w' => R .outgrown w') h hs0 (hG0.mono ht.fz) rfl ?_
       ·rw [hc] at main
        exact main
       ·intro e m' s' tm' g' w' hk' hs' ht' _
        have go : ∀ env stk', s'.stk = env :: stk' → ∀ m2 : Md, (∀ p, m2 ≠ .rcv p) → leaveC E (inlineC E d) d base K (dfs ds).length m2 { env := env, stk := stk', bxs := s'.bxs } = some r → LeavesInM Fence.wide 0 P fn tm R ds m2.mode w' := by
         intro env stk' hst' m2 hm2 hk2
         have hstk' := hs'.stk
         rw [hst'] at hstk'
         exact leaveC_ok hE hI hG0 fin ds _ m2 _ g' w' rfl hk2 hm2 ⟨hstk'.1, hstk'.2, hs'.bxs, hs'.fz⟩ (ht.trans ht') ((⟨fun d hd => hk.mem d (by simp [hd]), ap.2⟩ : Mk _ g w ds).tr ht')
        have ret : ∀ env stk', s'.stk = env :: stk' → (match resOf E.C s' fd.results.toList with
          | some _ => leaveC E (inlineC E d) d base K (dfs ds).length (match (generalizing := false) m' with | .rcv _ => .ret | m => m) { env := env, stk := stk', bxs := s'.bxs }
          | none => none) = some r → ∃ u', ({ c₀ with mode := m'.mode } : Frame) :: cs = { c₀ with mode := u' } :: cs ∧ ∃ v, (results fd tm').run P w' = .ok v w' ∧ LeavesInM Fence.wide 0 P fn tm R ds (settle u') w' := by
         intro env stk' hst' hk2
         split at hk2
         ·rename_i us hus
          obtain ⟨cs', q1, q2, q3⟩ := results_ok hE.cfg hs' hus
          refine ⟨m'.mode, rfl, _, run_results q1, ?_⟩
          cases m' with
          | ret => exact go env stk' hst' .ret (fun _ h => nomatch h) hk2
          | pan p => exact go env stk' hst' (.pan p) (fun _ h => nomatch h) hk2
          | rcv p => exact go env stk' hst' .ret (fun _ h => nomatch h) hk2
         ·cases hk2
        cases e with
        | exit i => simp at hk'
        | pan p =>
         refine ⟨rfl, m'.mode, rfl, ?_⟩
         cases hst' : s'.stk with
         | nil => rw [hst'] at hk'; cases m' <;> cases hk'
         | cons env stk' =>
          rw [hst'] at hk'
          cases m' with
          | ret => exact go env stk' hst' (.pan p) (fun _ h => nomatch h) hk'
          | pan q => cases hk'
          | rcv q => cases hk'
        | normal =>
         cases hst' : s'.stk with
         | nil => rw [hst'] at hk'; cases hk'
         | cons env stk' =>
          rw [hst'] at hk'
          exact ⟨rfl, ret env stk' hst' hk'⟩
        | ret =>
         cases hst' : s'.stk with
         | nil => rw [hst'] at hk'; cases hk'
         | cons env stk' =>
          rw [hst'] at hk'
          exact ⟨rfl, ret env stk' hst' hk'⟩
      ·cases h
     ·cases h
    ·cases h
   ·cases h
theorem body_ok (hE : EnvOK P E) {d base base' : Nat} (hI : ∀ R : Type, InlOK (R := R) P E (inlineC E d)) {f : Nat} {fn : Func} {c : Code} (hf : find E.F f = some fn) (hb : fn.body = some c) {g : Gh} {s0 : St} {vals : Array Value} {tms : List (Array Value)} {w : World}
  (hs0 : StR g s0 (vals ++ Array.replicate (fn.ntmps - vals.size) undef) tms w) (hG : GlobOK E.C g.fz) {X : Type} {K : St → Md → St → Option X} {r : X} {L : Nat} (hL : L = tms.length)
  (h : runC E (inlineC E d) d f base c s0 (fun e s => match mdOf e with | none => none | some m => leaveC E (inlineC E d) d base' (K s) (s.stk.length - L) m s) = some r) {R : Ending → World → Prop}
  (fin : ∀ s1 m s tm' g' w', K s1 m s = some r → StR g' s tm' tms w' → Tr g w g' w' → Fin P fn R tm' w' m) : Calls P f vals w R := by
 obtain ⟨hfn, hfo⟩ := hE.func f fn hf
 have hd := funOk_of hfo hb
 refine callsIn_wide.1 (callsIn_of_wp_marks (n := 0) hfn hb trivial ?_)
 refine runC_ok hE .base (N := fun r => w.heap.size ≤ r) (ds := []) (tms := tms) (nt := fn.ntmps) (n := (vals ++ Array.replicate (fn.ntmps - vals.size) undef).size) hI (by simp; omega) c (dstsOk_mono (by simp; omega) hd.1) hd.2.1 (fun b hb' l hl => hE.loop d _ f fn c b l hf hb hb' hl) (.inl rfl) (codes_of hE hf hb) h hs0 hG rfl Mk.nil (.inl fun _ h => h) ?_
 intro e s' tm' g' w' ds' hk hs' ht _ hm'
 dsimp only at hk
 have hlen := hs'.stk.length
 rw [List.length_append] at hlen
 have go : ∀ m : Md, (∀ p, m ≠ .rcv p) → leaveC E (inlineC E d) d base' (K s') (s'.stk.length - L) m s' = some r → LeavesInM Fence.wide 0 P fn tm' R ds' m.mode w' := by
  intro m hm hk
  exact leaveC_ok hE hI hG (fun m s g2 w2 a b c => fin s' m s tm' g2 w2 a b c) ds' _ m s' g' w' (by omega) hk hm hs' ht hm'
 cases e with
 | normal => exact go .ret (fun _ h => nomatch h) hk
 | ret => exact go .ret (fun _ h => nomatch h) hk
 | pan p => exact go (.pan p) (fun _ h => nomatch h) hk
 | exit i => cases hk
theorem inlineC_ok (hE : EnvOK P E) : ∀ (d : Nat) (R : Type), InlOK (R := R) P E (inlineC E d)
 | 0, R => ⟨fun base f args s K KP r h => by simp [inlineC] at h, fun base b args s K KP r h => by simp [inlineC] at h⟩
 | d + 1, R => by
  refine ⟨fun base f args s K KP r h => ?_, fun base b args s K KP r h => ?_⟩
  ·simp only [inlineC] at h
   split at h
   ·rename_i fn hf
    split at h
    ·rename_i c hb
     refine ⟨enter_of hE hf, fun g tm tms w vals hs hG hv => ?_⟩
     have hs0 : StR g { env := params 0 args, stk := s.env :: s.stk, bxs := s.bxs } (vals ++ Array.replicate (fn.ntmps - vals.size) undef) (tm :: tms) w := ⟨envR_params hv _, ⟨hs.env, hs.stk⟩, hs.bxs, hs.fz⟩
     refine body_ok hE (inlineC_ok hE d) hf hb hs0 hG (K := fun _ m s' => match m, s'.stk with
      | .pan p, env :: stk => KP p { env := env, stk := stk, bxs := s'.bxs }
      | .ret, env :: stk => match resOf E.C s' fn.results.toList with
       | some vs => K (tup1 vs) { env := env, stk := stk, bxs := s'.bxs }
       | none => none
      | _, _ => none) (L := s.stk.length + 1) (by rw [List.length_cons, hs.stk.length]) h ?_
     intro s1 m s' tm' g' w' hk hs' ht
     have hstk := hs'.stk
     cases hst : s'.stk with
     | nil => rw [hst] at hk; cases m <;> cases hk
     | cons env stk =>
      rw [hst] at hk hstk
      cases m with
      | rcv p => trivial
      | pan p => exact .inr ⟨p, _, g', rfl, hk, ⟨hstk.1, hstk.2, hs'.bxs, hs'.fz⟩, ht⟩
      | ret =>
       simp only at hk
       split at hk
       ·rename_i vs hvs
        obtain ⟨cs, h1, h2, h3⟩ := results_ok hE.cfg hs' hvs
        exact ⟨_, run_results h1, .inl ⟨_, _, _, g', rfl, hk, tup1_ok h2 h3, ⟨hstk.1, hstk.2, hs'.bxs, hs'.fz⟩, ht⟩⟩
       ·cases hk
    ·cases h
   ·cases h
  ·intro g tm tms w vals gb l hs hG hv hgb hl
   simp only [inlineC] at h
   split at h
   ·rename_i f id env hbx
    split at h
    ·rename_i fn hf
     split at h
     ·rename_i c hb
      split at h
      ·rename_i cd hcd
       cases hchk : (Nat.beq cd.ps.length args.length && (noRange (E.totOf f) cd.assign && noRange (E.totOf f) cd.body)) with
       | false => rw [hchk] at h; cases h
       | true =>
        rw [hchk, cond_true] at h
        simp only [Bool.and_eq_true] at hchk
        obtain ⟨gb', p1, p2⟩ := hs.bxs.box _ _ hbx
        rw [hgb] at p1
        cases p1
        obtain ⟨p3, p4, l', tmr, D, fnr, cdr, p5, p6, p7, p8, p9, p10⟩ := p2
        rw [hl] at p5
        cases p5
        have hmem := find_mem hcd
        have hcdr : cdr = cd := by
         have := codes_of hE hf hb _ hmem
         simp only at this
         rw [p6] at this
         exact Option.some.inj this
        subst hcdr
        have hnt := rangesOf_n hmem
        simp only at hnt
        rw [hnt] at p9
        have hlen := Nat.eq_of_beq_eq_true hchk.1
        have hps := (rangesOf_dsts (funOk_of (hE.func f fn hf).2 hb).1 hmem).1
        obtain ⟨e1, e2⟩ := putL_ok (g := g) (ps := cdr.ps) (args := args) (vals := vals.toList) hv (show EnvR g env tmr from p8) hlen (fun p hp => Nat.lt_of_lt_of_le (hps p hp) p9)
        have hvl : vals.size = cdr.ps.length := by
         rw [hlen]
         have : ∀ {l : List AV} {cs : List Value}, VsR g l cs → l.length = cs.length := by
          intro l
          induction l with
          | nil => intro cs h; cases cs with | nil => rfl | cons c cs => exact h.elim
          | cons a l ih => intro cs h; cases cs with | nil => exact h.elim | cons c cs => simp [ih h.2]
         rw [← Array.length_toList]
         exact (this hv).symm
        refine ⟨fnr, _, cdr.assign, cdr.body, run_yield p7 (by simpa using hvl), fun F n hW => ?_⟩
        simp only
        rw [zip_foldl]
        exact round_ok hE (inlineC_ok hE d) hf hb hmem hchk.2.1 hchk.2.2 h e1 (by rw [e2]; exact p9) hs hG ⟨gb, l, hgb, p3, hl, rfl⟩ hW fnr
      ·cases h
     ·cases h
    ·cases h
   ·cases h
theorem resK_eq {R : Type} {bx : Bxs} : ∀ {l : List Ty} {vs : List AV} {K : tysDen l → Option R}, resK bx l vs K = argsK (frzAll bx) l vs K
 | [], [], K => rfl
 | [], _ :: _, K => rfl
 | _ :: _, [], K => rfl
 | T :: l, v :: vs, K => by
  simp only [resK, argsK]
  split
  ·exact resK_eq
  ·rfl
def runV (E : Env0) (f : Nat) (fn : Func) (c : Code) (vs : List AV) (res : List Ty) : Option (tysDen res) :=
 runC E (inlineC E depth) depth f 0 c { env := params 0 vs, stk := [], bxs := [] } fun e s =>
  match mdOf e with
  | none => none
  | some m => leaveC E (inlineC E depth) depth 0 (fun m s => match m with
   | .ret => match resOf E.C s fn.results.toList with
    | some vs => resK s.bxs res vs some
    | none => none
   | _ => none) s.stk.length m s
theorem pure_core (hE : EnvOK P E) {f : Nat} {fn : Func} {c : Code} (hf : find E.F f = some fn) (hb : fn.body = some c) {res : List Ty} {fz : Nat → Nat → Option Value} {w : World} {args : Array Value} {vs : List AV} {y : tysDen res}
  (hG : GlobOK E.C fz) (hF : FzOK (.of fz) w) (ha : VsR (.of fz) vs args.toList) (h : runV E f fn c vs res = some y) :
  Calls P f args w fun e w' => ∃ cs fz', e = .returned (resVal cs) ∧ TVs fz' res y cs ∧ FzOK (.of fz') w' ∧ Tr (.of fz) w (.of fz') w' := by
 unfold runV at h
 have hs0 : StR (.of fz) { env := params 0 vs, stk := [], bxs := [] } (args ++ Array.replicate (fn.ntmps - args.size) undef) [] w := ⟨envR_params ha _, trivial, bxR_nil, hF⟩
 refine body_ok hE (inlineC_ok hE depth) hf hb hs0 hG (K := fun _ m s => match m with
   | .ret => match resOf E.C s fn.results.toList with
    | some vs => resK s.bxs res vs some
    | none => none
   | _ => none) (L := 0) rfl h ?_
 intro s1 m s' tm' g' w' hk hs' ht
 cases m with
 | rcv p => trivial
 | pan p => cases hk
 | ret =>
  simp only at hk
  split at hk
  ·rename_i vs hvs
   obtain ⟨cs, h1, h2, h3⟩ := results_ok hE.cfg hs' hvs
   rw [resK_eq] at hk
   obtain ⟨fz1, h4, t4⟩ := StR.frzKeys s'.bxs hs'
   have hx : ExtBut none g' ⟨fz1, g'.bx⟩ := ⟨t4.fz, fun _ _ _ h => h, fun _ _ h _ => nomatch h⟩
   have hvm : ∀ {l : List AV} {cs : List Value}, VsR g' l cs → VsR ⟨fz1, g'.bx⟩ l cs := by
    intro l
    induction l with
    | nil => intro cs h; cases cs <;> exact h
    | cons v l ih =>
     intro cs h
     cases cs with
     | nil => exact h.elim
     | cons c cs => exact ⟨h.1.grow hx, ih h.2⟩
   obtain ⟨y', h5, h6⟩ := argsK_ok h4.bxs.w h4.fz hk (hvm h2)
   cases h5
   have t5 := ht.trans t4
   exact ⟨_, run_results h1, cs, fz1, rfl, h6, h4.fz, ⟨t5.os, t5.tape, t5.output, t5.size, t5.fz, t5.fzNew, fun b h => (not_owned _ _ h).elim, t5.block⟩⟩
  ·cases hk
theorem pure_of_run (hE : EnvOK P E) {f : Nat} {fn : Func} {c : Code} (hf : find E.F f = some fn) (hb : fn.body = some c) (p : PSpec) (hp : ∀ x y, p.fn x = some y → runF E f fn c p.args p.res x = some y) : PureOK P E.C f p := by
 intro fz w args x y hG hF ha hx
 exact pure_core hE hf hb hG hF (TVs.vsR (g := .of fz) ha) (hp x y hx)
theorem pure_nil (hE : EnvOK P E) {f : Nat} {fn : Func} {c : Code} (hf : find E.F f = some fn) (hb : fn.body = some c) (T : Ty) (args res : List Ty) (F : tysDen (.sl T :: args) → Option (tysDen res))
  (h1 : ∀ x y, F ([], x) = some y → runV E f fn c (.nils :: tysAV args x) res = some y) (h2 : ∀ l x y, F (l, x) = some y → runV E f fn c (.nn T l :: tysAV args x) res = some y) :
  PureOK P E.C f { args := .sl T :: args, res := res, fn := F } := by
 intro fz w vals x y hG hF ha hx
 obtain ⟨l, x⟩ := x
 have hx' : F (l, x) = some y := hx
 have ha' : TVs fz (.sl T :: args) (l, x) vals.toList := ha
 generalize hv : vals.toList = vl at ha'
 cases vl with
 | nil => exact ha'.elim
 | cons v vl =>
  obtain ⟨⟨arr, ⟨v', e1, e2⟩, e3⟩, hr⟩ := ha'
  have e4 : v = v' := by
   rw [e3]
   show arr.getD 0 undef = v'
   rw [Array.getD_eq_getD_getElem?, ← Array.getElem?_toList, e1]
   rfl
  subst e4
  rcases e2 with ⟨e5, e6⟩ | ⟨blk, off, cap, cs, e5, q1, q2, q3⟩
  ·have e5' : l = [] := e5
   subst e5'
   refine pure_core hE hf hb hG hF ?_ (h1 x y hx')
   rw [hv]
   exact ⟨by rw [e6]; rfl, TVs.vsR (g := .of fz) hr⟩
  ·refine pure_core hE hf hb hG hF ?_ (h2 l x y hx')
   rw [hv]
   exact ⟨⟨blk, off, cap, cs, by rw [e5], q1, q2, q3⟩, TVs.vsR (g := .of fz) hr⟩
theorem resRow_ok {g : Gh} {s : St} {tm : Array Value} {tms : List (Array Value)} {w : World} (hs : StR g s tm tms w) {T : Ty} {fz : Bool} {v : AV} {l : List T.den} (h : resRow s.bxs T fz v = some l) {c : Value} (hv : VR g v c) :
  ∃ gb, gb.isRow = true ∧ WinR gb .whole c ∧ BoxR g (.row T fz l) gb w ∧ ∀ blk, gb.blk = some blk → gb.own = true → owned g blk := by
 unfold resRow at h
 split at h
 ·simp only [Option.some.injEq] at h
  subst h
  have hc : [c] = [Value.slice none 0 0] := hv
  simp only [List.cons.injEq, and_true] at hc
  subst hc
  exact ⟨⟨true, false, none, 0, 0, 0, T.size⟩, rfl, ⟨rfl, rfl⟩, ⟨rfl, rfl, rfl, Nat.le_refl _, rfl, rfl, rfl⟩, (fun _ h => nomatch h)⟩
 ·rename_i S l'
  cases fz with
  | false => cases h
  | true =>
   rw [cond_true] at h
   split at h
   ·rename_i hS
    subst hS
    simp only [Option.some.injEq] at h
    subst h
    rcases (show GR g (.full S l') [c] from hv) with ⟨rfl, hc⟩ | ⟨blk, off, cs, hc, h1, h2⟩
    ·simp only [List.cons.injEq, and_true] at hc
     subst hc
     exact ⟨⟨true, false, none, 0, 0, 0, S.size⟩, rfl, ⟨rfl, rfl⟩, ⟨rfl, rfl, rfl, Nat.le_refl _, rfl, rfl, rfl⟩, (fun _ h => nomatch h)⟩
    simp only [List.cons.injEq, and_true] at hc
    subst hc
    exact ⟨⟨true, false, some blk, off, l'.length, l'.length, S.size⟩, rfl, rfl, ⟨rfl, rfl, rfl, Nat.le_refl _, .inl rfl, rfl, cs, h1, h2⟩, (fun _ _ h => nomatch h)⟩
   ·cases h
 ·rename_i b
  split at h
  ·rename_i S f l' hb
   cases hf : f == fz with
   | false => rw [hf] at h; cases h
   | true =>
    rw [hf, cond_true] at h
    split at h
    ·rename_i hS
     subst hS
     simp only [Option.some.injEq] at h
     subst h
     have hff := eq_of_beq hf
     subst hff
     obtain ⟨gb, v, e1, e2, e3, hw⟩ := (show GR g (.row b .whole) [c] from hv)
     simp only [List.cons.injEq, and_true] at e3
     subst e3
     obtain ⟨gb', q1, q2⟩ := hs.bxs.box _ _ hb
     rw [e1] at q1
     cases q1
     exact ⟨gb, e2, hw, q2, fun blk p1 p2 => ⟨b, gb, e1, p1, p2⟩⟩
    ·cases h
  ·cases h
 ·rename_i b off n full
  split at h
  ·rename_i S l' hb
   cases fz with
   | true => cases h
   | false =>
    rw [cond_false] at h
    split at h
    ·rename_i hS
     subst hS
     simp only [Option.some.injEq] at h
     subst h
     obtain ⟨gb, v, e1, e2, e3, hw⟩ := (show GR g (.row b (.part off n full)) [c] from hv)
     simp only [List.cons.injEq, and_true] at e3
     subst e3
     obtain ⟨gb', q1, q2⟩ := hs.bxs.box _ _ hb
     rw [e1] at q1
     cases q1
     have hlen : gb.len = l'.length := q2.2.2.1
     have hform : ∃ a0 c0, c = .slice a0 (Win.app (.part off n full) l').length c0 ∧ (Win.app (.part off n full) l').length ≤ c0 := by
      unfold WinR at hw
      cases hbl : gb.blk with
      | none =>
       simp only [hbl] at hw
       obtain ⟨rfl, rfl, _, rfl⟩ := hw
       exact ⟨none, 0, by simp [Win.app], by simp [Win.app]⟩
      | some blk =>
       simp only [hbl] at hw
       obtain ⟨w1, a, c0, rfl, _, w2, _⟩ := hw
       have hl : (Win.app (.part off n full) l').length = n := by simp only [Win.app, List.length_take, List.length_drop]; omega
       exact ⟨_, c0, by rw [hl], by omega⟩
     obtain ⟨a0, c0, rfl, hle⟩ := hform
     obtain ⟨gb2, r1, r2, r3⟩ := rowWin_ok q2 hw hs.fz rfl hle
     exact ⟨gb2, r1.1, r3, r1, fun blk p1 p2 => ⟨b, gb, e1, r2 blk p1 p2⟩⟩
    ·cases h
  ·cases h
 ·cases h
theorem fresh_core (hE : EnvOK P E) {f : Nat} {fn : Func} {c : Code} (hf : find E.F f = some fn) (hb : fn.body = some c) {T : Ty} {fr : Bool} {fz : Nat → Nat → Option Value} {w : World} {args : Array Value} {vs : List AV} {y : List T.den}
  (hG : GlobOK E.C fz) (hF : FzOK (.of fz) w) (ha : VsR (.of fz) vs args.toList) (h : runR E f fn c vs T fr = some y) :
  Calls P f args w fun e w' => ∃ v fz' gb, e = .returned v ∧ gb.isRow = true ∧ WinR gb .whole v ∧ BoxR (.of fz') (.row T fr y) gb w' ∧ (∀ blk, gb.blk = some blk → gb.own = true → w.heap.size ≤ blk) ∧ FzOK (.of fz') w' ∧ Tr (.of fz) w (.of fz') w' := by
 unfold runR at h
 have hs0 : StR (.of fz) { env := params 0 vs, stk := [], bxs := [] } (args ++ Array.replicate (fn.ntmps - args.size) undef) [] w := ⟨envR_params ha _, trivial, bxR_nil, hF⟩
 refine body_ok hE (inlineC_ok hE depth) hf hb hs0 hG (K := fun _ m s => match m with
   | .ret => match resOf E.C s fn.results.toList with
    | some [v] => resRow (bif fr then frzL s.bxs [v] else s.bxs) T fr v
    | _ => none
   | _ => none) (L := 0) rfl h ?_
 intro s1 m s' tm' g' w' hk hs' ht
 cases m with
 | rcv p => trivial
 | pan p => cases hk
 | ret =>
  simp only at hk
  split at hk
  ·rename_i v hvs
   obtain ⟨cs, h1, h2, h3⟩ := results_ok hE.cfg hs' hvs
   have hst : ∃ fz1, StR ⟨fz1, g'.bx⟩ { s' with bxs := bif fr then frzL s'.bxs [v] else s'.bxs } tm' [] w' ∧ Tr g' w' ⟨fz1, g'.bx⟩ w' := by
    cases fr with
    | false => exact ⟨g'.fz, hs', Tr.refl _ _⟩
    | true => exact StR.frzL [v] hs'
   obtain ⟨fz1, h4, t4⟩ := hst
   have hx : ExtBut none g' ⟨fz1, g'.bx⟩ := ⟨t4.fz, fun _ _ _ h => h, fun _ _ h _ => nomatch h⟩
   match cs, h2 with
   | [c], h2 =>
    obtain ⟨gb, k1, k2, k3, k4⟩ := resRow_ok h4 hk (h2.1.grow hx)
    have t5 := ht.trans t4
    exact ⟨_, run_results h1, c, fz1, gb, rfl, k1, k2, boxR_fzSame rfl k3, fun blk e1 e2 => (t5.own blk (k4 blk e1 e2)).resolve_left (not_owned _ _), h4.fz, ⟨t5.os, t5.tape, t5.output, t5.size, t5.fz, t5.fzNew, fun b h => (not_owned _ _ h).elim, t5.block⟩⟩
   | [], h2 => exact h2.elim
   | _ :: _ :: _, h2 => exact h2.2.elim
  ·cases hk
theorem fresh_of_run (hE : EnvOK P E) {f : Nat} {fn : Func} {c : Code} (hf : find E.F f = some fn) (hb : fn.body = some c) (p : RSpec) (hp : ∀ x y, p.fn x = some y → runR E f fn c (tysAV p.args x) p.T p.fz = some y) : FreshOK P E.C f p := by
 intro fz w args x y hG hF ha hx
 exact fresh_core hE hf hb hG hF (TVs.vsR (g := .of fz) ha) (hp x y hx)
theorem decV_ok {R : Type} {g : Gh} {bxs : Bxs} {w : World} (hb : BxW g bxs w) (hf : FzOK g w) {ks : List Nat} : ∀ {l : List Sh} {vs : List AV} {K : shDen l → Option R} {r : R} {cs : List Value}, l.all (fun x => x.ok ks && (match x with | .cst v => v.okGs | .ty _ => true | .dyn _ => true)) = true → decV bxs l vs K = some r → VsR g vs cs →
  ∃ x, K x = some r ∧ VsR (g.keep ks) (encV l x) cs
 | [], [], K, r, [], _, h, _ => ⟨(), h, trivial⟩
 | [], [], _, _, _ :: _, _, _, h => h.elim
 | .ty T :: l, v :: vs, K, r, c :: cs, hk, h, ⟨h1, h2⟩ => by
  simp only [List.all_cons, Bool.and_eq_true] at hk
  simp only [decV] at h
  split at h
  ·rename_i x hx
   obtain ⟨y, h3, h4⟩ := decV_ok hb hf hk.2 h h2
   exact ⟨(x, y), h3, (TV.vr (g := g.keep ks) (norm_tv hb hf hx h1)).vr', h4⟩
  ·cases h
 | .cst u :: l, v :: vs, K, r, c :: cs, hk, h, ⟨h1, h2⟩ => by
  simp only [List.all_cons, Bool.and_eq_true] at hk
  simp only [decV] at h
  cases hs : v.same u
  ·rw [hs] at h; cases h
  ·rw [hs] at h
   simp only [cond_true] at h
   have := same_eq hs
   subst this
   obtain ⟨y, h3, h4⟩ := decV_ok hb hf hk.2 h h2
   exact ⟨y, h3, vr_keep hk.1.1 h1, h4⟩
 | _ :: _, _ :: _, _, _, [], _, _, h => h.elim
 | [], _ :: _, _, _, _, _, h, _ => by simp [decV] at h
 | .ty _ :: _, [], _, _, _, _, h, _ => by simp [decV] at h
 | .cst _ :: _, [], _, _, _, _, h, _ => by simp [decV] at h
 | .dyn k :: l, v :: vs, K, r, c :: cs, hk, h, ⟨h1, h2⟩ => by
  simp only [List.all_cons, Bool.and_eq_true] at hk
  simp only [decV] at h
  split at h
  ·rename_i x hx
   obtain ⟨y, h3, h4⟩ := decV_ok hb hf hk.2 h h2
   exact ⟨(x, y), h3, vr_keep (dyn_keys hk.1.1 x) ((dyn_ok hb hx).2.1 _ h1), h4⟩
  ·cases h
 | .dyn _ :: _, [], _, _, _, _, h, _ => by simp [decV] at h
theorem varPtrs_ok {g : Gh} {w : World} : ∀ (l : List (Nat × BSh)) (n : Nat), (∀ k sh, (k, BSh.var sh) ∈ l → ∃ gb blk, g.bx k = some gb ∧ gb.isRow = false ∧ gb.blk = some blk) →
  ∃ tm : Nat → Value, ∀ m v, find (varPtrs n l) m = some v → n ≤ m ∧ VR g v (tm m)
 | [], n, _ => ⟨fun _ => undef, fun _ _ h => nomatch h⟩
 | (k, .row _ _) :: l, n, h => by
  obtain ⟨tm, h1⟩ := varPtrs_ok (g := g) (w := w) l n (fun k sh hm => h k sh (by simp [hm]))
  exact ⟨tm, h1⟩
 | (k, .loop _ _ _ _) :: l, n, h => by
  obtain ⟨tm, h1⟩ := varPtrs_ok (g := g) (w := w) l n (fun k sh hm => h k sh (by simp [hm]))
  exact ⟨tm, h1⟩
 | (k, .map _ _) :: l, n, h => by
  obtain ⟨tm, h1⟩ := varPtrs_ok (g := g) (w := w) l n (fun k sh hm => h k sh (by simp [hm]))
  exact ⟨tm, h1⟩
 | (k, .var sh) :: l, n, h => by
  obtain ⟨tm, h1⟩ := varPtrs_ok (g := g) (w := w) l (n + 1) (fun k sh hm => h k sh (by simp [hm]))
  obtain ⟨gb, blk, e1, e2, e3⟩ := h k sh (by simp)
  refine ⟨fun m => if m = n then .pointer (some ⟨blk, 0, none⟩) else tm m, fun m v e => ?_⟩
  by_cases hm : n = m
  ·subst hm
   simp only [varPtrs, find_cons_same, Option.some.injEq] at e
   subst e
   exact ⟨Nat.le_refl _, gb, blk, e1, e2, e3, (fun _ h => nomatch h), by simp [stepsOff]⟩
  ·simp only [varPtrs, find_cons_other _ _ hm] at e
   obtain ⟨h2, h3⟩ := h1 m v e
   refine ⟨by omega, ?_⟩
   simp only
   rw [if_neg (Ne.symm hm)]
   exact h3
theorem varPtrs_lt : ∀ (l : List (Nat × BSh)) (n m : Nat) (v : AV), find (varPtrs n l) m = some v → m < n + l.length
 | (k, .row _ _) :: l, n, m, v, h => by
  have := varPtrs_lt l n m v h
  simp only [List.length_cons]; omega
 | (k, .loop _ _ _ _) :: l, n, m, v, h => by
  have := varPtrs_lt l n m v h
  simp only [List.length_cons]; omega
 | (k, .map _ _) :: l, n, m, v, h => by
  have := varPtrs_lt l n m v h
  simp only [List.length_cons]; omega
 | (k, .var sh) :: l, n, m, v, h => by
  by_cases hm : n = m
  ·simp only [List.length_cons]; omega
  ·simp only [varPtrs, find_cons_other _ _ hm] at h
   have := varPtrs_lt l (n + 1) m v h
   simp only [List.length_cons]; omega
theorem varPtrs_mem : ∀ {l : List (Nat × BSh)} {n : Nat} {k : Nat} {sh : List Sh}, (k, BSh.var sh) ∈ l → ∃ m, (m, AV.ptr k 0 []) ∈ varPtrs n l
 | (j, .row _ _) :: l, n, k, sh, h => by
  rcases List.mem_cons.1 h with h | h
  ·cases h
  ·exact varPtrs_mem (l := l) h
 | (j, .loop _ _ _ _) :: l, n, k, sh, h => by
  rcases List.mem_cons.1 h with h | h
  ·cases h
  ·exact varPtrs_mem (l := l) h
 | (j, .map _ _) :: l, n, k, sh, h => by
  rcases List.mem_cons.1 h with h | h
  ·cases h
  ·exact varPtrs_mem (l := l) h
 | (j, .var gs) :: l, n, k, sh, h => by
  rcases List.mem_cons.1 h with h | h
  ·cases h; exact ⟨n, by simp [varPtrs]⟩
  ·obtain ⟨m, hm⟩ := varPtrs_mem (l := l) (n := n + 1) h
   exact ⟨m, by simp [varPtrs, hm]⟩
theorem ptrsOk_mem {env : Env} : ∀ {l : Env}, ptrsOk env l = true → ∀ n v, (n, v) ∈ l → find env n = some v
 | (m, u) :: l, h, n, v, hm => by
  simp only [ptrsOk, Bool.and_eq_true] at h
  rcases List.mem_cons.1 hm with e | hm
  ·cases e
   have h1 := h.1
   split at h1
   ·rename_i x hx
    rw [hx, same_eq h1]
   ·cases h1
  ·exact ptrsOk_mem h.2 n v hm
theorem enc_mem_var {l : List (Nat × BSh)} (hl : ∀ k sh, (k, sh) ∈ l → sh.odd = false) {x : bxsDen l} {k : Nat} {gs : List AV} (h : find (encBxs l x) k = some (.var gs)) : ∃ sh, (k, BSh.var sh) ∈ l := by
 rcases find_enc h with ⟨_, _, _, e, _⟩ | ⟨sh, _, _, m⟩ | ⟨sh, m, e⟩
 ·cases e
 ·exact ⟨sh, m⟩
 ·rw [hl _ _ m] at e; cases e
theorem call_of_run (hE : EnvOK P E) {f : Nat} {fn : Func} {c : Code} (hf : find E.F f = some fn) (hb : fn.body = some c) (p : CSpec) (hok : p.ok = true) (hp : ∀ x y, p.fn x = some y → runS E f fn c p x = some y) : CallOK P E.C f p := by
 intro g w vals xa xb y hG hs hy
 have h := hp _ _ hy
 simp only [CSpec.ok, Bool.and_eq_true] at hok
 obtain ⟨⟨⟨⟨⟨a1, a2⟩, a3⟩, a4⟩, a5⟩, a6⟩ := hok
 obtain ⟨hkeys, hrows⟩ := kindOk_keys a5
 unfold runS at h
 have hvars : ∀ k sh, (k, BSh.var sh) ∈ p.ins → ∃ gb blk, g.bx k = some gb ∧ gb.isRow = false ∧ gb.blk = some blk := by
  intro k sh hm
  have hsome := find_encBxs (l := p.ins) (x := xb) (k := k) (List.mem_map.2 ⟨_, hm, rfl⟩)
  obtain ⟨b, hbk⟩ := Option.isSome_iff_exists.1 hsome
  obtain ⟨gb, e1, e2⟩ := hs.bxs.box k b hbk
  have hnr : k ∉ rowKeys p.ins := by
   intro hr
   have : ∀ {l : List (Nat × BSh)}, idsOk (l.map (·.1)) = true → (k, BSh.var sh) ∈ l → k ∉ rowKeys l := by
    intro l
    induction l with
    | nil => intro _ h; cases h
    | cons x l ih =>
     intro hi hm hr
     obtain ⟨j, d⟩ := x
     simp only [List.map_cons, idsOk, Bool.and_eq_true, Bool.not_eq_true'] at hi
     rcases List.mem_cons.1 hm with e | hm2
     ·cases e
      simp only [rowKeys] at hr
      rw [List.contains_iff_mem.2 (mem_rowKeys hr)] at hi
      cases hi.1
     ·cases d with
      | row T fz =>
       simp only [rowKeys, List.mem_cons] at hr
       rcases hr with rfl | hr
       ·have hc : (l.map (·.1)).contains k = true := List.contains_iff_mem.2 (List.mem_map.2 ⟨(k, BSh.var sh), hm2, rfl⟩)
        rw [hc] at hi
        cases hi.1
       ·exact ih hi.2 hm2 hr
      | var gs =>
       simp only [rowKeys] at hr
       exact ih hi.2 hm2 hr
      | loop u f i e =>
       simp only [rowKeys] at hr
       exact ih hi.2 hm2 hr
      | map S V =>
       simp only [rowKeys] at hr
       exact ih hi.2 hm2 hr
   exact this a6 hm hr
  rcases find_enc hbk with ⟨T, fz, l, _, m⟩ | ⟨sh', l, rfl, _⟩ | ⟨sh', m, modd⟩
  rotate_left 2
  ·exact absurd modd (by rw [(kindOk_noLoop a5).1 _ _ m]; decide)
  ·exact absurd m hnr
  ·obtain ⟨k1, k2, blk, cells, k3, _⟩ := e2
   exact ⟨gb, blk, e1, k1, k3⟩
 obtain ⟨tmf, htm⟩ := varPtrs_ok (w := w) p.ins 0 hvars
 let tmp : Array Value := (Array.range p.ins.length).map tmf
 have htmp : EnvR g (varPtrs 0 p.ins) tmp := by
  intro n v e
  have hlt := varPtrs_lt p.ins 0 n v e
  have : tmp.getD n undef = tmf n := by
   simp only [tmp, Array.getD_eq_getD_getElem?, Array.getElem?_map, Array.getElem?_range]
   rw [if_pos (by omega)]
   rfl
  rw [this]
  exact (htm n v e).2
 have henv : EnvR g (encEnv p.args xa) (vals ++ Array.replicate (fn.ntmps - vals.size) undef) := by
  intro n v e
  have := hs.env n v e
  have eq : (vals ++ Array.replicate (fn.ntmps - vals.size) undef).getD n undef = vals.getD n undef := by
   simp only [Array.getD_eq_getD_getElem?]
   by_cases hn : n < vals.size
   ·rw [Array.getElem?_append_left hn]
   ·rw [Array.getElem?_append_right (by omega), Array.getElem?_eq_none (show vals.size ≤ n by omega), Array.getElem?_replicate]
    split <;> rfl
  rw [eq]
  exact this
 have hs0 : StR g { env := encEnv p.args xa, stk := [varPtrs 0 p.ins], bxs := encBxs p.ins xb } (vals ++ Array.replicate (fn.ntmps - vals.size) undef) [tmp] w := ⟨henv, ⟨htmp, trivial⟩, hs.bxs, hs.fz⟩
 refine body_ok hE (inlineC_ok hE depth) hf hb hs0 hG (K := fun _ m s => match m with
   | .ret => match resOf E.C s fn.results.toList with
    | some vs =>
     let bx := frzL s.bxs (tyGs p.res vs ++ tyValsB s.bxs p.outs)
     bif (match s.stk with | [e] => ptrsOk e (varPtrs 0 p.ins) | _ => false) then decV bx p.res vs fun ya => decBxs bx p.outs fun yb => some (ya, yb) else none
    | none => none
   | _ => none) (L := 1) rfl h ?_
 intro s1 m s' tm' g' w' hk hs' ht
 cases m with
 | rcv p => trivial
 | pan p => cases hk
 | ret =>
  simp only at hk
  split at hk
  ·rename_i vs hvs
   obtain ⟨cs, h1, h2, h3⟩ := results_ok hE.cfg hs' hvs
   obtain ⟨fz1, h4, t4⟩ := StR.frzL (tyGs p.res vs ++ tyValsB s'.bxs p.outs) hs'
   generalize frzL s'.bxs (tyGs p.res vs ++ tyValsB s'.bxs p.outs) = bx at hk h4
   cases hptr : (match s'.stk with | [e] => ptrsOk e (varPtrs 0 p.ins) | _ => false) with
   | false => rw [hptr] at hk; cases hk
   | true =>
    rw [hptr, cond_true] at hk
    have hx : ExtBut none g' ⟨fz1, g'.bx⟩ := ⟨t4.fz, fun _ _ _ h => h, fun _ _ h _ => nomatch h⟩
    have hvm : ∀ {l : List AV} {cs : List Value}, VsR g' l cs → VsR ⟨fz1, g'.bx⟩ l cs := by
     intro l
     induction l with
     | nil => intro cs h; cases cs <;> exact h
     | cons v l ih =>
      intro cs h
      cases cs with
      | nil => exact h.elim
      | cons c cs => exact ⟨h.1.grow hx, ih h.2⟩
    obtain ⟨ya, k1, k2⟩ := decV_ok h4.bxs.w h4.fz a3 hk (hvm h2)
    obtain ⟨yb, k3, k4⟩ := decBxs_ok h4.fz h4.bxs.w a4 k1
    cases k3
    have t5 := ht.trans t4
    obtain ⟨ks, hks⟩ : ∃ ks, ks = p.ins.map (·.1) := ⟨_, rfl⟩
    rw [← hks] at k2 k4
    refine ⟨_, run_results h1, cs, Gh.keep ⟨fz1, g'.bx⟩ ks, rfl, k2, ⟨?_, ?_, ?_⟩, h4.fz, t5.trans ⟨rfl, rfl, rfl, Nat.le_refl _, fun _ _ _ h => h, fun _ _ h => .inl h, ?_, fun _ _ _ => rfl⟩, ?_⟩
    ·intro k b e
     obtain ⟨gb, e1, e2⟩ := k4 k b e
     exact ⟨gb, by rw [keep_in _ (List.contains_iff_mem.2 (by rw [hks, hkeys]; exact find_encBxs_mem e))]; exact e1, e2⟩
    ·intro k gb e
     simp only [Gh.keep] at e
     split at e
     ·rename_i hm
      exact find_encBxs (by rw [← hkeys, ← hks]; exact hm)
     ·cases e
    ·intro k j a b blk hne e1 e2
     simp only [Gh.keep] at e1 e2
     split at e1
     ·split at e2
      ·exact h4.bxs.sep k j a b blk hne e1 e2
      ·cases e2
     ·cases e1
    ·rintro b ⟨k, gb, e1, e2⟩
     simp only [Gh.keep] at e1
     split at e1
     ·exact .inl ⟨k, gb, e1, e2⟩
     ·cases e1
    ·intro k gb e1 e2
     obtain ⟨b, hbk⟩ := Option.isSome_iff_exists.1 (hs.bxs.dom k gb e1)
     obtain ⟨gb', f1, f2⟩ := hs.bxs.box k b hbk
     rw [e1] at f1
     cases f1
     cases b with
     | row T fz l => rw [f2.1] at e2; cases e2
     | dead =>
      rcases find_enc hbk with ⟨_, _, _, e, _⟩ | ⟨_, _, e, _⟩ | ⟨_, m, e⟩
      ·cases e
      ·cases e
      ·rw [(kindOk_noLoop a5).1 _ _ m] at e; cases e
     | map K V l =>
      rcases find_enc hbk with ⟨_, _, _, e, _⟩ | ⟨_, _, e, _⟩ | ⟨_, m, e⟩
      ·cases e
      ·cases e
      ·rw [(kindOk_noLoop a5).1 _ _ m] at e; cases e
     | loop u f i e =>
      rcases find_enc hbk with ⟨_, _, _, e, _⟩ | ⟨_, _, e, _⟩ | ⟨_, m, e⟩
      ·cases e
      ·cases e
      ·rw [(kindOk_noLoop a5).1 _ _ m] at e; cases e
     | var gs =>
      obtain ⟨sh, hm⟩ := enc_mem_var (kindOk_noLoop a5).1 hbk
      obtain ⟨_, _, blk, cells, f3, _⟩ := f2
      obtain ⟨m, hmem⟩ := varPtrs_mem (n := 0) hm
      cases hst : s'.stk with
      | nil => rw [hst] at hptr; cases hptr
      | cons e0 st0 =>
       cases st0 with
       | cons e1 st1 => rw [hst] at hptr; cases hptr
       | nil =>
        rw [hst] at hptr
        have hfd := ptrsOk_mem hptr m _ hmem
        have hstk := hs'.stk
        rw [hst] at hstk
        obtain ⟨gb2, blk2, q1, q2, q3, _, q4⟩ := hstk.1 m _ hfd
        have h0 : VR g (.ptr k 0 []) (tmp.getD m undef) := by
         have hf0 : find (varPtrs 0 p.ins) m = some (.ptr k 0 []) := by
          have nd : ∀ {l : List (Nat × BSh)} {n m : Nat} {v : AV}, (m, v) ∈ varPtrs n l → n ≤ m ∧ find (varPtrs n l) m = some v := by
           intro l
           induction l with
           | nil => intro n m v h; cases h
           | cons x l ih =>
            intro n m v h
            obtain ⟨j, d⟩ := x
            cases d with
            | row T fz => exact ih h
            | loop u f i e => exact ih h
            | map S V => exact ih h
            | var gs =>
             simp only [varPtrs, List.mem_cons] at h
             rcases h with h | h
             ·cases h; exact ⟨Nat.le_refl _, by simp only [varPtrs, find_cons_same]⟩
             ·obtain ⟨i1, i2⟩ := ih h
              exact ⟨by omega, by simp only [varPtrs]; rw [find_cons_other _ _ (by omega)]; exact i2⟩
          exact (nd hmem).2
         exact htmp m _ hf0
        obtain ⟨gb3, blk3, r1, r2, r3, _, r4⟩ := h0
        rw [e1] at r1
        cases r1
        rw [r4] at q4
        simp only [List.cons.injEq, Value.pointer.injEq, Option.some.injEq, Addr.mk.injEq, and_true] at q4
        refine ⟨gb2, ?_, q2, ?_⟩
        ·rw [keep_in _ (List.contains_iff_mem.2 (by rw [hks]; exact List.mem_map.2 ⟨_, hm, rfl⟩))]
         exact q1
        ·rw [q3, r3, q4]
  ·cases hk
end
end Go.V
namespace Go.V
variable [Codes]
inductive ZG where
 | val (T : Ty) | nils | nilp | nilf | nili
def ZG.av : ZG → AV
 | .val T => .val T T.dflt
 | .nils => .nils
 | .nilp => .nilp
 | .nilf => .nilf
 | .nili => .nili
def chkN (f : List Value → Option (List Value)) : Nat → List Value → Option (List Value)
 | 0, l => some l
 | n + 1, l => match f l with
  | some r => chkN f n r
  | none => none
def chkT : Ty → List Value → Option (List Value)
 | .int k, .int j x :: r => if k = j ∧ x = 0 then some r else none
 | .bool, .bool false :: r => some r
 | .str, .string s :: r => if s.size = 0 then some r else none
 | .sl _, .slice none 0 0 :: r => some r
 | .unit, l => some l
 | .pair a b, l => match chkT a l with
  | some r => chkT b r
  | none => none
 | .arr n e, l => chkN (fun l => chkT e l) n l
 | _, _ => none
theorem chkN_ok {α : Type} {f : List Value → Option (List Value)} {Q : α → List Value → Prop} {x : α} (h : ∀ cs r, f cs = some r → ∃ c, cs = c ++ r ∧ Q x c) : ∀ {n : Nat} {cs r : List Value}, chkN f n cs = some r → ∃ c, cs = c ++ r ∧ Elems Q (List.replicate n x) c
 | 0, cs, r, e => by
  simp only [chkN, Option.some.injEq] at e
  exact ⟨[], by simp [e], rfl⟩
 | n + 1, cs, r, e => by
  simp only [chkN] at e
  split at e
  ·rename_i r1 h1
   obtain ⟨c1, rfl, q1⟩ := h _ _ h1
   obtain ⟨c2, rfl, q2⟩ := chkN_ok h e
   exact ⟨c1 ++ c2, by simp, c1, c2, rfl, q1, q2⟩
  ·cases e
theorem chkT_ok {fz : Nat → Nat → Option Value} : ∀ {T : Ty} {cs r : List Value}, chkT T cs = some r → ∃ c, cs = c ++ r ∧ CR fz T T.dflt c := by
 intro T
 induction T with
 | int k =>
  intro cs r h
  match cs, h with
  | .int j x :: r', h =>
   simp only [chkT] at h
   split at h
   ·rename_i hc
    simp only [Option.some.injEq] at h
    subst h
    exact ⟨[_], rfl, by rw [hc.1, hc.2]; rfl⟩
   ·cases h
 | bool =>
  intro cs r h
  match cs, h with
  | .bool false :: r', h => simp only [chkT, Option.some.injEq] at h; subst h; exact ⟨[_], rfl, rfl⟩
 | str =>
  intro cs r h
  match cs, h with
  | .string s :: r', h =>
   simp only [chkT] at h
   split at h
   ·rename_i hs
    simp only [Option.some.injEq] at h
    subst h
    refine ⟨[_], rfl, ?_⟩
    have : s = ⟨#[]⟩ := by
     obtain ⟨a⟩ := s
     congr 1
     exact Array.eq_empty_of_size_eq_zero hs
    rw [this]
    rfl
   ·cases h
 | sl e _ =>
  intro cs r h
  match cs, h with
  | .slice none 0 0 :: r', h => simp only [chkT, Option.some.injEq] at h; subst h; exact ⟨[_], rfl, _, rfl, .inl ⟨rfl, rfl⟩⟩
 | unit =>
  intro cs r h
  simp only [chkT, Option.some.injEq] at h
  subst h
  exact ⟨[], rfl, rfl⟩
 | pair a b iha ihb =>
  intro cs r h
  simp only [chkT] at h
  split at h
  ·rename_i r1 h1
   obtain ⟨c1, rfl, q1⟩ := iha h1
   obtain ⟨c2, rfl, q2⟩ := ihb h
   exact ⟨c1 ++ c2, by simp, c1, c2, rfl, q1, q2⟩
  ·cases h
 | arr n e ih =>
  intro cs r h
  simp only [chkT] at h
  obtain ⟨c, e1, e2⟩ := chkN_ok (Q := CR fz e) (x := e.dflt) (fun cs r h => ih h) h
  exact ⟨c, e1, by simp [Ty.dflt], e2⟩
def chkZ : List ZG → List Value → Bool
 | [], [] => true
 | .val T :: l, cs => match chkT T cs with
  | some r => chkZ l r
  | none => false
 | .nils :: l, .slice none 0 0 :: r => chkZ l r
 | .nilp :: l, .pointer none :: r => chkZ l r
 | .nilf :: l, .nilFunc :: r => chkZ l r
 | .nili :: l, .nilIface :: r => chkZ l r
 | _, _ => false
theorem chkZ_ok {g : Gh} : ∀ {l : List ZG} {cs : List Value}, chkZ l cs = true → GsR g (l.map ZG.av) cs
 | [], [], _ => rfl
 | [], _ :: _, h => by simp [chkZ] at h
 | .val T :: l, cs, h => by
  simp only [chkZ] at h
  split at h
  ·rename_i r hr
   obtain ⟨c, rfl, q⟩ := chkT_ok (fz := g.fz) hr
   exact ⟨c, r, rfl, q, chkZ_ok h⟩
  ·cases h
 | .nils :: l, cs, h => by
  match cs, h with
  | .slice none 0 0 :: r, h => exact ⟨[_], r, rfl, rfl, chkZ_ok h⟩
 | .nilp :: l, cs, h => by
  match cs, h with
  | .pointer none :: r, h => exact ⟨[_], r, rfl, rfl, chkZ_ok h⟩
 | .nilf :: l, cs, h => by
  match cs, h with
  | .nilFunc :: r, h => exact ⟨[_], r, rfl, rfl, chkZ_ok h⟩
 | .nili :: l, cs, h => by
  match cs, h with
  | .nilIface :: r, h => exact ⟨[_], r, rfl, rfl, chkZ_ok h⟩
def chkU (u : UT) (d : Option TypeDesc) : Bool :=
 match u, d with
 | .int k, some (.int j) => decide (k = j)
 | .bool, some .bool => true
 | .str, some .string => true
 | .ptr e, some (.pointer e') => Nat.beq e e'
 | .sl e, some (.slice e') => Nat.beq e e'
 | .arr n e, some (.array n' e') => Nat.beq n n' && Nat.beq e e'
 | .st fs, some (.struct fields) => decide (fields.toList.map (fun f => (f.offset, f.type)) = fs)
 | .fn, some (.func _ _ _) => true
 | .iface, some (.interface _) => true
 | .map k e, some (.map k' e') => Nat.beq k k' && Nat.beq e e'
 | .tup, _ => true
 | .oth, _ => true
 | _, _ => false
def chkI (C : Cfg) (t : Nat) (i : TypeInfo) : Bool := Nat.beq i.size (C.size t) && Nat.beq i.bytes (C.bytes.getD t 0)
def isAggV : Value → Bool
 | .agg _ => true
 | _ => false
def chkForm (C : Cfg) (P : Program) (t : Nat) : Bool :=
 (match C.ty t with
  | some (.int k) => (match P.underlying t with | some (.int j) => decide (k = j) | _ => false)
  | _ => true) &&
 (match P.info? t with
  | none => true
  | some i => match i.zero with
   | none => true
   | some z => (match C.under t with
     | .st _ => isAggV z
     | u => u.agg || !u.conc || !isAggV z) &&
    (match C.ty t with
     | some T => T.isAgg == isAggV z
     | none => true))
def checkAt (C : Cfg) (zs : List (Option (List ZG))) (P : Program) (t : Nat) : Bool :=
 chkU (C.under t) (P.underlying t) &&
 (Nat.beq (C.size t) 0 || (match P.info? t with | some i => chkI C t i | none => false)) &&
 (match zs.getD t none with
  | none => true
  | some gs => match P.info? t with
   | some i => chkI C t i && (match i.zero with | some z => chkZ gs z.cells.toList | none => false)
   | none => false) &&
 (match C.ty t with
  | none => true
  | some T => Nat.beq T.size (C.size t) && (match P.info? t with
   | some i => chkI C t i && Nat.ble i.bytes 65536 && (match i.zero with
    | some z => (match chkT T z.cells.toList with | some [] => true | _ => false)
    | none => false)
   | none => false)) && chkForm C P t
theorem chkI_ok {C : Cfg} {t : Nat} {i : TypeInfo} (h : chkI C t i = true) : i.size = C.size t ∧ i.bytes = C.bytes.getD t 0 := by
 simp only [chkI, Bool.and_eq_true] at h
 exact ⟨Nat.eq_of_beq_eq_true h.1, Nat.eq_of_beq_eq_true h.2⟩
theorem getD_le {α : Type} {l : List α} {n : Nat} {d : α} (h : l.length ≤ n) : l.getD n d = d := by
 simp [List.getD, List.getElem?_eq_none h]
def chkEq (P : Program) (t : Nat) : Bool :=
 (match P.underlying t with | some (.struct _) => true | _ => false) && !P.stoodInHeld t && !P.eqGuardType P.depth t && eqFieldsOk 0 (P.fieldsOf t).toList
theorem cfgOK_of {C : Cfg} {P : Program} (zs : List (Option (List ZG))) (N : Nat) (he : C.eqs.all (chkEq P) = true) (hz : C.zeros = zs.map (Option.map (List.map ZG.av))) (h1 : C.unders.length ≤ N) (h2 : C.sizes.length ≤ N) (h3 : C.tys.length ≤ N) (h4 : zs.length ≤ N)
  (h : (List.range N).all (checkAt C zs P) = true) : CfgOK C P := by
 have at_ : ∀ t, t < N → checkAt C zs P t = true := fun t ht => List.all_eq_true.1 h t (List.mem_range.2 ht)
 have under : ∀ t, C.under t ≠ .oth → chkU (C.under t) (P.underlying t) = true := by
  intro t ht
  by_cases hN : t < N
  ·have := at_ t hN
   simp only [checkAt, Bool.and_eq_true] at this
   exact this.1.1.1.1
  ·exact absurd (getD_le (Nat.le_trans h1 (Nat.le_of_not_lt hN))) ht
 have go : ∀ t u, C.under t = u → u ≠ .oth → chkU u (P.underlying t) = true := fun t u e hn => by
  have := under t (by rw [e]; exact hn)
  rwa [e] at this
 have form : ∀ t, t < N → chkForm C P t = true := fun t ht => by
  have := at_ t ht
  simp only [checkAt, Bool.and_eq_true] at this
  exact this.2
 refine ⟨?_, ?_, ?_, ?_, ?_, ?_, ?_, ?_, ?_, ?_, ?_, ?_, ?_, ?_, ?_, ?_, ?_, ?_⟩
 ·intro t k e
  have := go t _ e (by simp)
  unfold chkU at this
  split at this <;> first | (rename_i h1 h2; cases h1; done) | (rename_i h1; cases h1; done) | (cases this; done) | skip
  rename_i k' j h1 h2
  cases h1
  rw [of_decide_eq_true this]
  exact h2
 ·intro t e
  have := go t _ e (by simp)
  unfold chkU at this
  split at this <;> first | (rename_i h1 h2; cases h1; done) | (rename_i h1; cases h1; done) | (cases this; done) | skip
  rename_i h1 h2
  exact h2
 ·intro t e
  have := go t _ e (by simp)
  unfold chkU at this
  split at this <;> first | (rename_i h1 h2; cases h1; done) | (rename_i h1; cases h1; done) | (cases this; done) | skip
  rename_i h1 h2
  exact h2
 ·intro t e he
  have := go t _ he (by simp)
  unfold chkU at this
  split at this <;> first | (rename_i h1 h2; cases h1; done) | (rename_i h1; cases h1; done) | (cases this; done) | skip
  rename_i a b h1 h2
  cases h1
  rw [Nat.eq_of_beq_eq_true this]
  exact h2
 ·intro t e he
  have := go t _ he (by simp)
  unfold chkU at this
  split at this <;> first | (rename_i h1 h2; cases h1; done) | (rename_i h1; cases h1; done) | (cases this; done) | skip
  rename_i a b h1 h2
  cases h1
  rw [Nat.eq_of_beq_eq_true this]
  exact h2
 ·intro t n e he
  have := go t _ he (by simp)
  unfold chkU at this
  split at this <;> first | (rename_i h1 h2; cases h1; done) | (rename_i h1; cases h1; done) | (cases this; done) | skip
  rename_i a b c d h1 h2
  cases h1
  simp only [Bool.and_eq_true] at this
  rw [Nat.eq_of_beq_eq_true this.1, Nat.eq_of_beq_eq_true this.2]
  exact h2
 ·intro t fs he
  have := go t _ he (by simp)
  unfold chkU at this
  split at this <;> first | (rename_i h1 h2; cases h1; done) | (rename_i h1; cases h1; done) | (cases this; done) | skip
  rename_i a b h1 h2
  cases h1
  exact ⟨_, h2, of_decide_eq_true this⟩
 ·intro t he
  have := go t _ he (by simp)
  unfold chkU at this
  split at this <;> first | (rename_i h1 h2; cases h1; done) | (rename_i h1; cases h1; done) | (cases this; done) | skip
  rename_i a b c h1 h2
  exact ⟨_, _, _, h2⟩
 ·intro t he
  have := go t _ he (by simp)
  unfold chkU at this
  split at this <;> first | (rename_i h1 h2; cases h1; done) | (rename_i h1; cases h1; done) | (cases this; done) | skip
  rename_i a h1 h2
  exact ⟨_, h2⟩
 ·intro t k e he
  have := go t _ he (by simp)
  unfold chkU at this
  split at this <;> first | (rename_i h1 h2; cases h1; done) | (rename_i h1; cases h1; done) | (cases this; done) | skip
  rename_i a b c d h1 h2
  cases h1
  simp only [Bool.and_eq_true] at this
  rw [Nat.eq_of_beq_eq_true this.1, Nat.eq_of_beq_eq_true this.2]
  exact h2
 ·intro t ht
  have := List.all_eq_true.1 he t (List.contains_iff_mem.1 ht)
  simp only [chkEq, Bool.and_eq_true, Bool.not_eq_true'] at this
  obtain ⟨⟨⟨h1, h2⟩, h3⟩, h4⟩ := this
  refine ⟨?_, h2, h3, h4⟩
  unfold Program.fieldsOf
  split at h1
  ·rename_i fs hu; rw [hu]
  ·cases h1
 ·intro t ht
  by_cases hN : t < N
  ·have := at_ t hN
   simp only [checkAt, Bool.and_eq_true, Bool.or_eq_true] at this
   rcases this.1.1.1.2 with h | h
   ·exact absurd (Nat.eq_of_beq_eq_true h) ht
   ·split at h
    ·rename_i i hi
     exact ⟨i, hi, chkI_ok h⟩
    ·cases h
  ·exact absurd (getD_le (Nat.le_trans h2 (Nat.le_of_not_lt hN))) ht
 ·intro t gs hgs
  have e : (zs.getD t none).map (List.map ZG.av) = some gs := by
   rw [← hgs, Cfg.zero, hz]
   simp only [List.getD, List.getElem?_map]
   cases zs[t]? <;> rfl
  rw [Option.map_eq_some_iff] at e
  obtain ⟨zg, e1, rfl⟩ := e
  by_cases hN : t < N
  ·have := at_ t hN
   simp only [checkAt, Bool.and_eq_true] at this
   have h := this.1.1.2
   rw [e1] at h
   simp only at h
   split at h
   ·rename_i i hi
    simp only [Bool.and_eq_true] at h
    obtain ⟨k1, k2⟩ := h
    split at k2
    ·rename_i z hiz
     obtain ⟨k3, k4⟩ := chkI_ok k1
     exact ⟨i, z, hi, k3, k4, hiz, fun g => chkZ_ok k2⟩
    ·cases k2
   ·cases h
  ·rw [getD_le (Nat.le_trans h4 (Nat.le_of_not_lt hN))] at e1
   cases e1
 ·intro t T hT
  by_cases hN : t < N
  ·have := at_ t hN
   simp only [checkAt, Bool.and_eq_true] at this
   have h := this.1.2
   rw [hT] at h
   simp only [Bool.and_eq_true] at h
   obtain ⟨k0, h⟩ := h
   split at h
   ·rename_i i hi
    simp only [Bool.and_eq_true] at h
    obtain ⟨⟨k1, kb⟩, k2⟩ := h
    split at k2
    ·rename_i z hiz
     obtain ⟨k3, k4⟩ := chkI_ok k1
     refine ⟨Nat.eq_of_beq_eq_true k0, i, z, hi, k3, k4, Nat.le_of_ble_eq_true kb, hiz, fun fz => ?_⟩
     split at k2
     ·rename_i hr
      obtain ⟨c, e, q⟩ := chkT_ok (fz := fz) hr
      rw [List.append_nil] at e
      rw [e]
      exact q
     ·cases k2
    ·cases k2
   ·cases h
  ·have e : C.ty t = none := getD_le (Nat.le_trans h3 (Nat.le_of_not_lt hN))
   rw [e] at hT
   cases hT
 ·intro t k hT
  by_cases hN : t < N
  ·have h := form t hN
   simp only [chkForm, hT, Bool.and_eq_true] at h
   have h1 := h.1
   split at h1
   ·rename_i j hj
    rw [of_decide_eq_true h1]
    exact hj
   ·cases h1
  ·have e : C.ty t = none := getD_le (Nat.le_trans h3 (Nat.le_of_not_lt hN))
   rw [e] at hT
   cases hT
 ·intro t T hT i z hi hiz fz
  by_cases hN : t < N
  ·have h := form t hN
   simp only [chkForm, hT, hi, hiz, Bool.and_eq_true] at h
   have h2 := eq_of_beq h.2.2
   have hc : CR fz T T.dflt z.cells.toList := by
    have := at_ t hN
    simp only [checkAt, Bool.and_eq_true] at this
    have h := this.1.2
    rw [hT] at h
    simp only [hi, hiz, Bool.and_eq_true] at h
    have h5 := h.2.2
    split at h5
    ·rename_i hr
     obtain ⟨c, e, q⟩ := chkT_ok (fz := fz) hr
     rw [List.append_nil] at e
     rw [e]
     exact q
    ·cases h5
   refine ⟨z.cells, hc, ?_⟩
   cases z <;> simp only [isAggV] at h2 <;> rw [h2] <;> rfl
  ·have e : C.ty t = none := getD_le (Nat.le_trans h3 (Nat.le_of_not_lt hN))
   rw [e] at hT
   cases hT
 ·intro t fs i z hu hi hiz
  by_cases hN : t < N
  ·have h := form t hN
   simp only [chkForm, hu, hi, hiz, Bool.and_eq_true] at h
   have h2 := h.2.1
   cases z <;> simp only [isAggV, Bool.false_eq_true] at h2
   exact ⟨_, rfl⟩
  ·have e : C.under t = .oth := getD_le (Nat.le_trans h1 (Nat.le_of_not_lt hN))
   rw [e] at hu
   cases hu
 ·intro t i z ha hcn hi hiz a hz
  subst hz
  by_cases hN : t < N
  ·have h := form t hN
   simp only [chkForm, hi, hiz, Bool.and_eq_true] at h
   have h2 := h.2.1
   cases hu : C.under t <;> rw [hu] at h2 ha hcn <;> simp [UT.agg, UT.conc, isAggV] at h2 ha hcn
  ·have e : C.under t = .oth := getD_le (Nat.le_trans h1 (Nat.le_of_not_lt hN))
   rw [e] at hcn
   cases hcn
theorem findLoop_ok : ∀ {l : List Code}, idsOk (l.map firstRegion) = true → ∀ {b : Code}, b ∈ l → findLoop l (firstRegion b) = b
 | [], _, _, h => by simp at h
 | c :: l, hk, b, h => by
  simp only [List.map_cons, idsOk, Bool.and_eq_true, Bool.not_eq_true'] at hk
  simp only [findLoop]
  by_cases he : firstRegion c = firstRegion b
  ·rw [he, Nat.beq_refl, cond_true]
   rcases List.mem_cons.1 h with rfl | h
   ·rfl
   ·have : (l.map firstRegion).contains (firstRegion c) = true := by
     rw [List.contains_iff_mem, he]
     exact List.mem_map.2 ⟨b, h, rfl⟩
    rw [this] at hk
    cases hk.1
  ·rw [beq_false he, cond_false]
   rcases List.mem_cons.1 h with rfl | h
   ·exact absurd rfl he
   ·exact findLoop_ok hk.2 h
theorem loopAt_ok {tot : List Nat} {c b : Code} {fn : Func} (hb : fn.body = some c) (hf : funOk tot fn = true) (h : b ∈ loopsOf c) : loopAt c (firstRegion b) = b := by
 unfold funOk at hf
 rw [hb] at hf
 simp only [Bool.and_eq_true] at hf
 exact findLoop_ok hf.1.1.1.2 h
def LoopsOK (E : Env0) : List (Key × LSpec) → Prop
 | [] => True
 | (k, l) :: r => (∃ fn c, find E.F k.f = some fn ∧ fn.body = some c ∧ LoopOK E k.d k.f k.base (loopAt c k.id) l) ∧ LoopsOK E r
theorem findL_in {l : List (Key × LSpec)} {E : Env0} (h : LoopsOK E l) {k : Key} {s : LSpec} (hk : findL l k = some s) : ∃ fn c, find E.F k.f = some fn ∧ fn.body = some c ∧ LoopOK E k.d k.f k.base (loopAt c k.id) s := by
 induction l with
 | nil => cases hk
 | cons x l ih =>
  obtain ⟨j, u⟩ := x
  simp only [findL] at hk
  cases hb : j.beq k
  ·rw [hb] at hk; exact ih h.2 hk
  ·rw [hb] at hk
   simp only [cond_true, Option.some.injEq] at hk
   subst hk
   simp only [Key.beq, Bool.and_eq_true] at hb
   obtain ⟨fn, c, h1, h2, h3⟩ := h.1
   rw [← Nat.eq_of_beq_eq_true hb.1.1.1, ← Nat.eq_of_beq_eq_true hb.1.1.2, ← Nat.eq_of_beq_eq_true hb.1.2, ← Nat.eq_of_beq_eq_true hb.2]
   exact ⟨fn, c, h1, h2, h3⟩
def FunsOK (E : Env0) (P : Program) : List (Nat × Func) → Prop
 | [] => True
 | (f, fn) :: r => (P.funcs[f]? = some fn ∧ funOk (E.totOf f) fn = true) ∧ FunsOK E P r
theorem funs_find {E : Env0} {P : Program} : ∀ {l : List (Nat × Func)}, FunsOK E P l → ∀ {f : Nat} {fn : Func}, find l f = some fn → P.funcs[f]? = some fn ∧ funOk (E.totOf f) fn = true
 | [], _, _, _, h => nomatch h
 | (f, fn) :: l, ⟨h1, h2⟩, k, u, h => by
  by_cases hk : f = k
  ·subst hk; rw [find_cons_same] at h; cases h; exact h1
  ·rw [find_cons_other _ _ hk] at h; exact funs_find h2 h
def PuresOK (P : Program) (C : Cfg) : List (Nat × PSpec) → Prop
 | [] => True
 | (f, p) :: r => (PureOK P C f p ∧ Enterable P f) ∧ PuresOK P C r
theorem pures_find {P : Program} {C : Cfg} : ∀ {l : List (Nat × PSpec)}, PuresOK P C l → ∀ {f : Nat} {p : PSpec}, find l f = some p → PureOK P C f p ∧ Enterable P f
 | [], _, _, _, h => nomatch h
 | (f, fn) :: l, ⟨h1, h2⟩, k, u, h => by
  by_cases hk : f = k
  ·subst hk; rw [find_cons_same] at h; cases h; exact h1
  ·rw [find_cons_other _ _ hk] at h; exact pures_find h2 h
def CallsOK (P : Program) (C : Cfg) : List (Nat × CSpec) → Prop
 | [] => True
 | (f, p) :: r => (CallOK P C f p ∧ p.ok = true ∧ Enterable P f) ∧ CallsOK P C r
theorem calls_find {P : Program} {C : Cfg} : ∀ {l : List (Nat × CSpec)}, CallsOK P C l → ∀ {f : Nat} {p : CSpec}, find l f = some p → CallOK P C f p ∧ p.ok = true ∧ Enterable P f
 | [], _, _, _, h => nomatch h
 | (f, fn) :: l, ⟨h1, h2⟩, k, u, h => by
  by_cases hk : f = k
  ·subst hk; rw [find_cons_same] at h; cases h; exact h1
  ·rw [find_cons_other _ _ hk] at h; exact calls_find h2 h
def codesOf (P : Program) (f id : Nat) : Option LCode :=
 match P.funcs[f]? with
 | some fn => match fn.body with
  | some c => find (rangesOf fn.ntmps c) id
  | none => none
 | none => none
def FreshesOK (P : Program) (C : Cfg) : List (Nat × RSpec) → Prop
 | [] => True
 | (f, p) :: r => (FreshOK P C f p ∧ Enterable P f) ∧ FreshesOK P C r
theorem fresh_find {P : Program} {C : Cfg} : ∀ {l : List (Nat × RSpec)}, FreshesOK P C l → ∀ {f : Nat} {p : RSpec}, find l f = some p → FreshOK P C f p ∧ Enterable P f
 | [], _, _, _, h => nomatch h
 | (f, fn) :: l, ⟨h1, h2⟩, k, u, h => by
  by_cases hk : f = k
  ·subst hk; rw [find_cons_same] at h; cases h; exact h1
  ·rw [find_cons_other _ _ hk] at h; exact fresh_find h2 h
def InplsOK (P : Program) (C : Cfg) : List (Nat × ISpec) → Prop
 | [] => True
 | (f, p) :: r => (InOK P C f p ∧ Enterable P f) ∧ InplsOK P C r
theorem inpl_find {P : Program} {C : Cfg} : ∀ {l : List (Nat × ISpec)}, InplsOK P C l → ∀ {f : Nat} {p : ISpec}, find l f = some p → InOK P C f p ∧ Enterable P f
 | [], _, _, _, h => nomatch h
 | (f, fn) :: l, ⟨h1, h2⟩, k, u, h => by
  by_cases hk : f = k
  ·subst hk; rw [find_cons_same] at h; cases h; exact h1
  ·rw [find_cons_other _ _ hk] at h; exact inpl_find h2 h
theorem envOK_of {P : Program} {E : Env0} (hcd : ∀ f id, Codes.cd f id = codesOf P f id) (h0 : P.follows .mixedOrders = true) (h1 : CfgOK E.C P) (h2 : PuresOK P E.C E.P) (h5 : CallsOK P E.C E.S) (h3 : FunsOK E P E.F) (h4 : LoopsOK E E.L) (h6 : FreshesOK P E.C E.R := by trivial) (h7 : InplsOK P E.C E.I := by trivial) : EnvOK P E :=
 ⟨h0, h1, fun _ _ h => pures_find h2 h, fun _ _ h => fresh_find h6 h, fun _ _ h => calls_find h5 h, fun _ _ h => inpl_find h7 h, fun _ _ h => funs_find h3 h, fun f fn c hf hb id => by rw [hcd]; unfold codesOf; rw [(funs_find h3 hf).1]; simp only; rw [hb], fun d base f fn c b l hf hb hm hl => by
  obtain ⟨fn', c', e1, e2, e3⟩ := findL_in h4 hl
  simp only at e1 e3
  rw [hf] at e1
  cases e1
  rw [hb] at e2
  cases e2
  rw [loopAt_ok hb (funs_find h3 hf).2 hm] at e3
  exact e3⟩
theorem loopOK_of {E : Env0} {d f base : Nat} {c : Code} {l : LSpec} (h0 : l.ok = true) (step : Nat → l.head.den → Option (outDen l.outs)) (h1 : ∀ x o, l.fn x = some o → ∃ n, step n x = some o) (h2 : ∀ x, step 0 x = none)
  (h3 : ∀ n x, runB E d f base c l (step n) x = step (n + 1) x) : LoopOK E d f base c l :=
 ⟨h0, step, h1, h2, fun n x o h => by rw [h3]; exact h⟩
end Go.V
namespace Go.V
variable [Codes]
section
variable {P : Program} {C : Cfg}
def entOk (fn : Func) : Bool := fn.body.isSome && !(fn.name == "runtime.NumGoroutine")
theorem enter_fun {f : Nat} {fn : Func} (h1 : P.funcs[f]? = some fn) (h2 : entOk fn = true) : Enterable P f := by
 unfold entOk at h2
 simp only [Bool.and_eq_true, Bool.not_eq_true'] at h2
 refine ⟨fn, h1, h2.2, ?_⟩
 cases hb : fn.body with
 | none => rw [hb] at h2; cases h2.1
 | some c => rfl
end
end Go.V
namespace Go.V
variable [Codes]
def Ty.ok : (T : Ty) → T.den → Prop
 | .int k, x => k.min ≤ x ∧ x ≤ k.max
 | .bool, _ => True
 | .str, s => s.size ≤ maxLen
 | .sl e, l => l.length ≤ maxLen ∧ ∀ x ∈ l, e.ok x
 | .unit, _ => True
 | .pair a b, x => a.ok x.1 ∧ b.ok x.2
 | .arr n e, l => l.length = n ∧ ∀ x ∈ l, e.ok x
def tysOk : (l : List Ty) → tysDen l → Prop
 | [], _ => True
 | T :: l, x => T.ok x.1 ∧ tysOk l x.2
def Ty.noSl : Ty → Bool
 | .sl _ => false
 | .pair a b => a.noSl && b.noSl
 | .arr _ e => e.noSl
 | _ => true
def fit (C : Cfg) : Ty → UT → Nat → Bool
 | .int k, .int j, _ => decide (k = j)
 | .bool, .bool, _ => true
 | .str, .str, _ => true
 | .sl S, .sl e, _ => fit C S (C.under e) 0 && S.noSl && Nat.beq (C.size e) S.size && !Nat.beq S.size 0
 | .arr n S, .arr m e, _ => Nat.beq n m && fit C S (C.under e) 0 && Nat.beq (C.size e) S.size && !Nat.beq S.size 0
 | .unit, .st [], _ => true
 | .pair A B, .st ((o, t) :: fs), off => Nat.beq o off && fit C A (C.under t) 0 && Nat.beq (C.size t) A.size && !Nat.beq A.size 0 && fit C B (.st fs) (off + A.size)
 | _, _, _ => false
section
variable {C : Cfg} {P : Program} {H : Type} {enc : TypeId × Value → H} {w : World} {held : Bool} {sp : Nat → Bool}
theorem cellsOf_eq (hC : CfgOK C P) {t n : Nat} (h : C.size t = n) (hn : n ≠ 0) : P.cellsOf t = n := by
 obtain ⟨i, h1, h2, _⟩ := hC.size t (by rw [h]; exact hn)
 unfold Program.cellsOf
 rw [h1]
 simp only [Option.map_some, Option.getD_some]
 rw [h2, h]
def spotOk (cs : List Value) : Prop := ∀ v ∈ cs, ∀ a c, v = .slice (some a) 0 c → a.spot = none
theorem spotOk.sub {cs ds : List Value} (h : spotOk cs) (hs : ∀ v ∈ ds, v ∈ cs) : spotOk ds := fun v hv => h v (hs v hv)
theorem mapM_range {α : Type} {f : Nat → Option α} {l : List α} : ∀ {n : Nat}, (List.range n).mapM f = some l → l.length = n ∧ ∀ i, i < n → f i = l[i]? := by
 intro n h
 have key : ∀ (xs : List Nat) (l : List α), xs.mapM f = some l → l.length = xs.length ∧ ∀ i, i < xs.length → (xs[i]?).bind f = l[i]? := by
  intro xs
  induction xs with
  | nil => intro l h; simp at h; subst h; exact ⟨rfl, fun i hi => absurd hi (by simp)⟩
  | cons x xs ih =>
   intro l h
   rw [List.mapM_cons] at h
   cases hx : f x with
   | none => simp [hx] at h
   | some y =>
    cases hr : xs.mapM f with
    | none => simp [hx, hr] at h
    | some ys =>
     simp [hx, hr] at h
     subst h
     obtain ⟨h1, h2⟩ := ih ys hr
     refine ⟨by simp [h1], fun i hi => ?_⟩
     cases i with
     | zero => simp [hx]
     | succ i => simpa using h2 i (by simpa using hi)
 obtain ⟨h1, h2⟩ := key _ _ h
 rw [List.length_range] at h1
 refine ⟨h1, fun i hi => ?_⟩
 have := h2 i (by simpa using hi)
 rwa [List.getElem?_range hi] at this
theorem elems_of {α : Type} {R : α → List Value → Prop} {ok : α → Prop} {sz : Nat} : ∀ (n : Nat) (cs : List Value), cs.length = n * sz → (∀ i, i < n → ∃ x, R x ((cs.drop (i * sz)).take sz) ∧ ok x) →
  ∃ l : List α, l.length = n ∧ Elems R l cs ∧ ∀ x ∈ l, ok x
 | 0, cs, hl, _ => ⟨[], rfl, List.eq_nil_of_length_eq_zero (by simpa using hl), fun _ h => nomatch h⟩
 | n + 1, cs, hl, h => by
  obtain ⟨x, h1, h2⟩ := h 0 (by omega)
  obtain ⟨l, k1, k2, k3⟩ := elems_of (R := R) (ok := ok) (sz := sz) n (cs.drop sz) (by rw [List.length_drop, hl, Nat.succ_mul]; omega) (fun i hi => by
   obtain ⟨y, q1, q2⟩ := h (i + 1) (by omega)
   refine ⟨y, ?_, q2⟩
   rw [List.drop_drop]
   have : sz + i * sz = (i + 1) * sz := by rw [Nat.succ_mul]; omega
   rw [this]
   exact q1)
  refine ⟨x :: l, by simp [k1], ⟨cs.take sz, cs.drop sz, (List.take_append_drop _ _).symm, by simpa using h1, k2⟩, fun y hy => ?_⟩
  rcases List.mem_cons.1 hy with rfl | hy
  ·exact h2
  ·exact k3 y hy
def allFz (w : World) : Nat → Nat → Option Value := fun b o => w.cell? ⟨b, o, none⟩
theorem cells_at {a : Addr} {n : Nat} {cs : List Value} (h : w.cells? 0 a n = some cs) : cs.length = n ∧ ∀ j, j < n → w.cell? (a.add j) = cs[j]? := by
 unfold World.cells? at h
 rw [if_pos (Nat.zero_le _)] at h
 exact mapM_range h
theorem spot_of_cell {a : Addr} {v : Value} (h : w.cell? a = some v) : a.spot = none := by
 unfold World.cell? at h
 split at h
 ·split at h
  ·cases h
  ·rename_i hs; cases hsp : a.spot with
   | none => rfl
   | some _ => rw [hsp] at hs; simp at hs
 ·cases h
mutual
theorem fit_cr (hC : CfgOK C P) : ∀ (T : Ty) (t : TypeId) (fuel : Nat) (cs : List Value) (x : DataW H × List MemPlace), fit C T (C.under t) 0 = true → (T.size = 0 → cs = []) → (T.size ≠ 0 → C.size t = T.size) → (T.noSl = true ∨ spotOk cs) →
  DataW.trod enc P w 0 sp held fuel t cs = some x → ∃ y, CR (allFz w) T y cs ∧ T.ok y
 | .int k, t, fuel, cs, x, hf, _, _, _, h => by
  cases hu : C.under t <;> rw [hu] at hf <;> simp only [fit, decide_eq_true_eq, Bool.false_eq_true] at hf
  subst hf
  obtain ⟨n, rfl, rfl, hw⟩ := DataW.trod_int (hC.int _ _ hu) h
  simp only [Lit.wf, Bool.and_eq_true, decide_eq_true_eq] at hw
  exact ⟨n, rfl, hw⟩
 | .bool, t, fuel, cs, x, hf, _, _, _, h => by
  cases hu : C.under t <;> rw [hu] at hf <;> simp only [fit, Bool.false_eq_true] at hf
  obtain ⟨n, rfl, rfl⟩ := DataW.trod_bool (hC.bool _ hu) h
  exact ⟨n, rfl, trivial⟩
 | .str, t, fuel, cs, x, hf, _, _, _, h => by
  cases hu : C.under t <;> rw [hu] at hf <;> simp only [fit, Bool.false_eq_true] at hf
  obtain ⟨n, rfl, rfl, hw⟩ := DataW.trod_string (hC.str _ hu) h
  exact ⟨n, rfl, hw⟩
 | .sl S, t, fuel, cs, x, hf, _, _, hs, h => by
  cases hu : C.under t <;> rw [hu] at hf <;> simp only [fit, Bool.and_eq_true, Bool.not_eq_true', Bool.false_eq_true] at hf
  rename_i e
  obtain ⟨⟨⟨f1, f2⟩, f3⟩, f4⟩ := hf
  have hsz : S.size ≠ 0 := fun e => by rw [e] at f4; cases f4
  have hce := Nat.eq_of_beq_eq_true f3
  have hcells := cellsOf_eq hC hce hsz
  rcases DataW.trod_slice (hC.sl _ _ hu) h with ⟨rfl, _⟩ | ⟨a, len, cap, elems, rest, n, rfl, rfl, _, _, hlc, hcm, hel, he, _, _⟩
  ·exact ⟨[], ⟨_, rfl, .inl ⟨rfl, rfl⟩⟩, Nat.zero_le _, fun _ h => nomatch h⟩
  ·rw [hcells] at he
   have one : ∀ i, i < len → ∃ cs, w.cells? 0 (a.add (i * S.size)) S.size = some cs ∧ ∃ y, DataW.trod enc P w 0 sp held n e cs = some y := by
    intro i hi
    have := he i hi
    rw [List.getElem?_eq_getElem (by omega)] at this
    obtain ⟨cs, h1, h2⟩ := Option.bind_eq_some_iff.1 this
    exact ⟨cs, h1, _, h2⟩
   have hspot : a.spot = none := by
    cases len with
    | zero =>
     rcases hs with hs | hs
     ·simp [Ty.noSl] at hs
     ·exact hs _ (by simp) a cap rfl
    | succ len =>
     obtain ⟨cs, h1, _⟩ := one 0 (by omega)
     obtain ⟨h2, h3⟩ := cells_at h1
     have h4 := h3 0 (by omega)
     rw [List.getElem?_eq_getElem (by omega)] at h4
     have := spot_of_cell h4
     simpa [Addr.add] using this
   obtain ⟨blk, off, spot⟩ := a
   simp only at hspot
   subst hspot
   let all : List Value := (List.range len).flatMap fun i => (w.cells? 0 ((⟨blk, off, none⟩ : Addr).add (i * S.size)) S.size).getD []
   have key : ∀ m, m ≤ len → ∃ l : List S.den, ∃ cs, l.length = m ∧ Elems (CR (allFz w) S) l cs ∧ cs.length = m * S.size ∧ Fz (allFz w) blk off cs ∧ ∀ y ∈ l, S.ok y := by
    intro m
    induction m with
    | zero => exact fun _ => ⟨[], [], rfl, rfl, by simp, fun j v e => by simp at e, fun _ h => nomatch h⟩
    | succ m ih =>
     intro hm
     obtain ⟨l, cs, k1, k2, k3, k4, k5⟩ := ih (by omega)
     obtain ⟨cs1, h1, y1, h2⟩ := one m (by omega)
     obtain ⟨q1, q2⟩ := cells_at h1
     obtain ⟨y, q3, q4⟩ := fit_cr hC S e n cs1 y1 f1 (fun e => absurd e hsz) (fun _ => hce) (.inl f2) h2
     refine ⟨l ++ [y], cs ++ cs1, by simp [k1], ?_, by simp [k3, q1, Nat.succ_mul], ?_, ?_⟩
     ·exact Elems.append k2 ⟨cs1, [], by simp, q3, rfl⟩
     ·intro j v e
      by_cases hj : j < cs.length
      ·rw [List.getElem?_append_left hj] at e; exact k4 j v e
      ·rw [List.getElem?_append_right (by omega)] at e
       have hj2 : j - cs.length < S.size := by
        have := (List.getElem?_eq_some_iff.1 e).1
        omega
       have := q2 _ hj2
       rw [e] at this
       show w.cell? ⟨blk, off + j, none⟩ = some v
       rw [← this]
       rw [add_lit', add_lit']
       congr 2
       omega
     ·intro z hz
      rcases List.mem_append.1 hz with hz | hz
      ·exact k5 z hz
      ·simp at hz; subst hz; exact q4
   obtain ⟨l, cs, k1, k2, k3, k4, k5⟩ := key len (Nat.le_refl _)
   refine ⟨l, ⟨_, rfl, .inr ⟨blk, off, cap, cs, by rw [k1], by rw [k1]; exact hlc, k2, k4⟩⟩, ?_, k5⟩
   rw [k1]; omega
 | .arr n S, t, fuel, cs, x, hf, hz0, hsize, hs, h => by
  cases hu : C.under t <;> rw [hu] at hf <;> simp only [fit, Bool.and_eq_true, Bool.not_eq_true', Bool.false_eq_true] at hf
  rename_i m e
  obtain ⟨⟨⟨f0, f1⟩, f3⟩, f4⟩ := hf
  have hnm := Nat.eq_of_beq_eq_true f0
  subst hnm
  have hsz : S.size ≠ 0 := fun e => by rw [e] at f4; cases f4
  have hce := Nat.eq_of_beq_eq_true f3
  have hcells := cellsOf_eq hC hce hsz
  obtain ⟨xs, m, _, rfl, hl, hxs, he⟩ := DataW.trod_array (hC.arr _ _ _ hu) h
  rw [hcells] at he
  have hlen : cs.length = n * S.size := by
   by_cases hz : n * S.size = 0
   ·have : n = 0 := by
     rcases Nat.mul_eq_zero.1 hz with h | h
     ·exact h
     ·exact absurd h hsz
    subst this
    rw [hz0 (by simp [Ty.size])]
    simp
   ·rw [hl]
    exact cellsOf_eq hC (hsize (by simpa [Ty.size] using hz)) (by simpa [Ty.size] using hz)
  obtain ⟨l, k1, k2, k3⟩ := elems_of (R := CR (allFz w) S) (ok := S.ok) n cs hlen (fun i hi => by
   have := he i hi
   rw [List.getElem?_eq_getElem (by omega)] at this
   refine fit_cr hC S e m _ _ f1 (fun e => absurd e hsz) (fun _ => hce) ?_ this
   rcases hs with hs | hs
   ·exact .inl hs
   ·exact .inr (hs.sub fun v hv => List.mem_of_mem_drop (List.mem_of_mem_take hv)))
  exact ⟨l, ⟨k1, k2⟩, k1, k3⟩
 | .unit, t, fuel, cs, x, hf, hz, _, _, h => ⟨(), hz rfl, trivial⟩
 | .pair A B, t, fuel, cs, x, hf, _, hsize, hs, h => by
  cases hu : C.under t <;> rw [hu] at hf <;> try (simp only [fit, Bool.false_eq_true] at hf; done)
  rename_i fs
  obtain ⟨fields, hd, hfs⟩ := hC.st _ _ hu
  obtain ⟨xs, m, _, rfl, hl, hxs, he⟩ := DataW.trod_struct hd h
  have hAB : (Ty.pair A B).size ≠ 0 := by
   cases fs with
   | nil => simp [fit] at hf
   | cons f fs =>
    simp only [fit, Bool.and_eq_true, Bool.not_eq_true'] at hf
    intro e
    simp only [Ty.size] at e
    have : A.size = 0 := by omega
    rw [this] at hf
    exact absurd hf.1.2 (by decide)
  have hlen : cs.length = (Ty.pair A B).size := by
   rw [hl]; exact cellsOf_eq hC (hsize hAB) hAB
  obtain ⟨y, h1, h2⟩ := fit_fs hC (.pair A B) fields.toList 0 m cs xs 0 (by rw [hfs]; exact hf) (by omega) (fun i f hf => by
   have := he i f (by simpa using hf)
   simpa using this) (by rw [hxs]; simp) hs
  exact ⟨y, by simpa using h1, h2⟩
theorem fit_fs (hC : CfgOK C P) : ∀ (T : Ty) (fields : List Field) (off fuel : Nat) (cs : List Value) (xs : List (DataW H × List MemPlace)) (k : Nat), fit C T (.st (fields.map fun f => (f.offset, f.type))) off = true → cs.length = off + T.size →
  (∀ i f, fields[i]? = some f → DataW.trod enc P w 0 sp held fuel f.type ((cs.drop f.offset).take (P.cellsOf f.type)) = xs[k + i]?) → k + fields.length = xs.length → (T.noSl = true ∨ spotOk cs) →
  ∃ y, CR (allFz w) T y (cs.drop off) ∧ T.ok y
 | .unit, fields, off, fuel, cs, xs, k, hf, hl, _, _, _ => by
  refine ⟨(), ?_, trivial⟩
  show cs.drop off = []
  rw [List.drop_eq_nil_iff]
  simp only [Ty.size] at hl
  omega
 | .pair A B, [], off, fuel, cs, xs, k, hf, hl, _, _, _ => by simp [fit] at hf
 | .pair A B, f :: fields, off, fuel, cs, xs, k, hf, hl, he, hk, hs => by
  simp only [List.map_cons, fit, Bool.and_eq_true, Bool.not_eq_true'] at hf
  obtain ⟨⟨⟨⟨f1, f2⟩, f3⟩, f4⟩, f5⟩ := hf
  have hoff := Nat.eq_of_beq_eq_true f1
  have hsz : A.size ≠ 0 := fun e => by rw [e] at f4; cases f4
  have hce := Nat.eq_of_beq_eq_true f3
  have hcells := cellsOf_eq hC hce hsz
  have h0 := he 0 f rfl
  simp only [List.length_cons] at hk
  rw [Nat.add_zero, List.getElem?_eq_getElem (by omega), hoff, hcells] at h0
  simp only [Ty.size] at hl
  obtain ⟨a, h1, h2⟩ := fit_cr hC A f.type fuel _ _ f2 (fun e => absurd e hsz) (fun _ => hce) (by
   rcases hs with hs | hs
   ·simp only [Ty.noSl, Bool.and_eq_true] at hs; exact .inl hs.1
   ·exact .inr (hs.sub fun v hv => List.mem_of_mem_drop (List.mem_of_mem_take hv))) h0
  obtain ⟨b, h3, h4⟩ := fit_fs hC B fields (off + A.size) fuel cs xs (k + 1) f5 (by omega) (fun i g hg => by
   have := he (i + 1) g (by simpa using hg)
   rw [this]; congr 1; omega) (by omega) (by
   rcases hs with hs | hs
   ·simp only [Ty.noSl, Bool.and_eq_true] at hs; exact .inl hs.2
   ·exact .inr hs)
  refine ⟨(a, b), ⟨(cs.drop off).take A.size, cs.drop (off + A.size), ?_, h1, h3⟩, h2, h4⟩
  rw [← List.drop_drop, List.take_append_drop]
 | .int _, fields, off, _, _, _, _, hf, _, _, _, _ => by cases fields <;> simp [fit] at hf
 | .bool, fields, off, _, _, _, _, hf, _, _, _, _ => by cases fields <;> simp [fit] at hf
 | .str, fields, off, _, _, _, _, hf, _, _, _, _ => by cases fields <;> simp [fit] at hf
 | .sl _, fields, off, _, _, _, _, hf, _, _, _, _ => by cases fields <;> simp [fit] at hf
 | .arr _ _, fields, off, _, _, _, _, hf, _, _, _, _ => by cases fields <;> simp [fit] at hf
end
def fitAll (C : Cfg) : List TypeId → List Ty → Bool
 | [], [] => true
 | t :: ts, T :: Ts => fit C T (C.under t) 0 && (Nat.beq (C.size t) T.size && !Nat.beq T.size 0) && fitAll C ts Ts
 | _, _ => false
theorem cell_spot {W : World} {r : Reach} {base : Nat} {u : TypeId} {a : Addr} {n c : Nat} (h : Cell.okWide P W r base u (.slice (some a) n c)) : a.spot = none := by
 unfold Cell.okWide at h
 split at h <;> first
  | (rename_i e; cases e; done)
  | skip
 unfold Cell.ok at h
 split at h <;> first
  | (rename_i e; cases e; done)
  | (cases h; done)
  | skip
 all_goals first
  | (rename_i e; simp only [Value.slice.injEq, Option.some.injEq] at e; obtain ⟨rfl, rfl, rfl⟩ := e; exact h.2.2.2.1)
  | exact h.2.2.2.1
theorem fit_agg (hC : CfgOK C P) {T : Ty} {t : TypeId} (hf : fit C T (C.under t) 0 = true) :
  (T.isAgg = true ∧ ((∃ fs, P.underlying t = some (.struct fs)) ∨ ∃ n e, P.underlying t = some (.array n e))) ∨
  (T.isAgg = false ∧ (∀ fs, P.underlying t ≠ some (.struct fs)) ∧ (∀ n e, P.underlying t ≠ some (.array n e))) := by
 cases T <;> cases hu : C.under t <;> rw [hu] at hf <;> try (simp only [fit, Bool.false_eq_true] at hf; done)
 case int.int => exact .inr ⟨rfl, by rw [hC.int _ _ hu]; simp, by rw [hC.int _ _ hu]; simp⟩
 case bool.bool => exact .inr ⟨rfl, by rw [hC.bool _ hu]; simp, by rw [hC.bool _ hu]; simp⟩
 case str.str => exact .inr ⟨rfl, by rw [hC.str _ hu]; simp, by rw [hC.str _ hu]; simp⟩
 case sl.sl => exact .inr ⟨rfl, by rw [hC.sl _ _ hu]; simp, by rw [hC.sl _ _ hu]; simp⟩
 case arr.arr => exact .inl ⟨rfl, .inr ⟨_, _, hC.arr _ _ _ hu⟩⟩
 case unit.st => obtain ⟨f, h, _⟩ := hC.st _ _ hu; exact .inl ⟨rfl, .inl ⟨_, h⟩⟩
 case pair.st => obtain ⟨f, h, _⟩ := hC.st _ _ hu; exact .inl ⟨rfl, .inl ⟨_, h⟩⟩
theorem arg_tv (hC : CfgOK C P) {T : Ty} {t : TypeId} {v : Value} {d : DataW H} {p : List MemPlace} (hf : fit C T (C.under t) 0 = true) (hz : C.size t = T.size) (hn : T.size ≠ 0) {base : Nat}
  (hv : Value.okWide P w .any base t v) (h : DataW.Trod enc P w 0 sp held t v d p) : ∃ x, TV (allFz w) T x v ∧ T.ok x := by
 obtain ⟨fuel, h⟩ := h
 unfold Value.okWide at hv
 rcases fit_agg hC hf with ⟨ha, hu⟩ | ⟨ha, hu1, hu2⟩
 ·have hv' : ∃ cs, v = .agg cs ∧ cs.size = P.cellsOf t ∧ Row.okWide P w .any base t cs := by
   rcases hu with ⟨fs, hu⟩ | ⟨n, e, hu⟩ <;> rw [hu] at hv <;> exact hv
  obtain ⟨cs, rfl, _, ts, _, _, hrow⟩ := hv'
  have hs : spotOk cs.toList := by
   intro v hv a c e
   obtain ⟨i, hi, e2⟩ := List.mem_iff_getElem.1 hv
   obtain ⟨u, _, hc⟩ := hrow i v (by rw [← Array.getElem?_toList, List.getElem?_eq_getElem hi, e2])
   rw [e] at hc
   exact cell_spot hc
  obtain ⟨y, h1, h2⟩ := fit_cr hC T t fuel _ _ hf (fun e => absurd e hn) (fun _ => hz) (.inr hs) h
  exact ⟨y, ⟨cs, h1, by rw [ha]; rfl⟩, h2⟩
 ·have hv' : Cell.okWide P w .any base t v := by
   cases hu : P.underlying t with
   | none => rw [hu] at hv; exact hv
   | some D =>
    rw [hu] at hv
    cases D <;> first | exact hv | exact absurd hu (hu1 _) | exact absurd hu (hu2 _ _)
  have hcells : v.cells = #[v] := by
   cases v <;> first | rfl | skip
   rename_i cs
   exfalso
   unfold Cell.okWide at hv'
   split at hv' <;> first
    | (rename_i e; cases e; done)
    | skip
   unfold Cell.ok at hv'
   split at hv' <;> first
    | (rename_i e; cases e; done)
    | (cases hv'; done)
    | skip
  rw [hcells] at h
  have hs : spotOk [v] := by
   intro u hu a c e
   simp only [List.mem_singleton] at hu
   subst hu
   rw [e] at hv'
   exact cell_spot hv'
  obtain ⟨y, h1, h2⟩ := fit_cr hC T t fuel _ _ hf (fun e => absurd e hn) (fun _ => hz) (.inr hs) h
  exact ⟨y, ⟨#[v], h1, by rw [ha]; rfl⟩, h2⟩
theorem args_tvs (hC : CfgOK C P) {base : Nat} : ∀ {ts : List TypeId} {Ts : List Ty} {vs : List Value} {ds : List (DataW H)} {p : List MemPlace}, fitAll C ts Ts = true →
  (∀ (j : Nat) t v, ts[j]? = some t → vs[j]? = some v → Value.okWide P w .any base t v) → DataW.TrodAll enc P w 0 sp held ts vs ds p → ∃ x, TVs (allFz w) Ts x vs ∧ tysOk Ts x
 | [], [], [], [], p, _, _, _ => ⟨(), rfl, trivial⟩
 | t :: ts, T :: Ts, v :: vs, d :: ds, p, hf, hv, ⟨p1, p2, h1, h2, _⟩ => by
  simp only [fitAll, Bool.and_eq_true, Bool.not_eq_true'] at hf
  have hn : T.size ≠ 0 := fun e => by have := hf.1.2.2; rw [e] at this; cases this
  obtain ⟨x, k1, k2⟩ := arg_tv hC hf.1.1 (Nat.eq_of_beq_eq_true hf.1.2.1) hn (hv 0 t v rfl rfl) h1
  obtain ⟨y, k3, k4⟩ := args_tvs hC hf.2 (fun j t v e1 e2 => hv (j + 1) t v (by simpa using e1) (by simpa using e2)) h2
  exact ⟨(x, y), ⟨k1, k3⟩, k2, k4⟩
 | [], _ :: _, _, _, _, hf, _, _ => by simp [fitAll] at hf
 | _ :: _, [], _, _, _, hf, _, _ => by simp [fitAll] at hf
 | [], [], _ :: _, _, _, _, _, h => h.elim
 | [], [], [], _ :: _, _, _, _, h => h.elim
 | _ :: _, _ :: _, [], _, _, _, _, h => h.elim
 | _ :: _, _ :: _, _ :: _, [], _, _, _, h => h.elim
theorem keptBut_same {W W' : World} (ho : W'.os = W.os) (hp : W'.output = W.output) (hb : ∀ b, b < W.heap.size → W'.heap[b]? = W.heap[b]?) (may : MemPlace → Prop) : W.keptBut W' may := by
 refine ⟨ho, hp, fun i hi => ?_⟩
 rw [hb i hi]
 cases W.heap[i]? with
 | none => rfl
 | some o => cases o <;> first | rfl | exact ⟨rfl, rfl, rfl, fun _ _ => rfl⟩ | exact .inr ⟨rfl, rfl⟩
theorem trodAll_same (hl : laidOutB P = true) (hm : mapsRowed P = true) (hsz : ∀ t e, t < P.types.size → P.underlying t = some (.slice e) → 0 < P.cellsOf e) {W W' : World} (hb : ∀ b, b < W.heap.size → W'.heap[b]? = W.heap[b]?) :
  ∀ {ts : List TypeId} {vs : List Value} {ds : List (DataW H)} {p : List MemPlace}, (∀ t ∈ ts, t < P.types.size) → DataW.TrodAll enc P W 0 (fun _ => true) true ts vs ds p → DataW.TrodAll enc P W' 0 (fun b => decide (b < W.heap.size)) true ts vs ds p
 | [], [], [], p, _, h => h
 | t :: ts, v :: vs, d :: ds, p, ht, ⟨p1, p2, ⟨n, h1⟩, h2, e⟩ => by
  have hlt := DataW.trod_lt n _ _ _ h1
  refine ⟨p1, p2, ⟨n, DataW.trod_stays (kids_rows hl hm) (fun a b => hsz _ _ a b) (fun h => by cases h) (ht t (by simp)) h1 (fun q hq => ?_) (fun q hq => by simpa using hlt q hq)⟩, trodAll_same hl hm hsz hb (fun t h => ht t (by simp [h])) h2, e⟩
  have := hlt q hq
  cases q with
  | cell b off => exact World.cell?_of_block (a := ⟨b, off, none⟩) (hb b this)
  | map b => exact hb b this
 | [], [], _ :: _, _, _, h => h.elim
 | [], _ :: _, _, _, _, h => h.elim
 | _ :: _, [], _, _, _, h => h.elim
 | _ :: _, _ :: _, [], _, _, h => h.elim
theorem law_contract (hC : CfgOK C P) (hl : laidOutB P = true) (hm : mapsRowed P = true) (hsz : ∀ t e, t < P.types.size → P.underlying t = some (.slice e) → 0 < P.cellsOf e)
    {f : FuncId} {fn : Func} {Ts : List Ty} {F : tysDen Ts → Option (tysDen [.bool])} (hp : PureOK P C f { args := Ts, res := [.bool], fn := F }) (hlaw : ∀ x, tysOk Ts x → F x = some (true, ()))
    (hfit : fitAll C fn.params.toList Ts = true) (hpt : ∀ t ∈ fn.params.toList, t < P.types.size) {tb : TypeId} (hrt : fn.resultTypes = #[tb]) (htb : P.underlying tb = some .bool)
    {s : ChangeSpec} (hvars : s.vars = []) {apart fresh handsOn : Bool} {W : World} {base : Nat} {args : Array Value} {ds gs : List (DataW H)} {before : List MemPlace}
    (hs : s.fn H (ds ++ []) = { results := [.lit (.bool true)], args := ds, vars := [] })
    (hval : ∀ (j : Nat) t v, fn.params[j]? = some t → args[j]? = some v → Value.okWide P W .any base t v) (hW : DataW.Whole enc P fn.params.toList s.vars apart W args.toList ds gs before) (hG : GlobOK C (allFz W)) :
    Calls P f args W fun e W' => ∃ v, e = .returned v ∧ s.post enc P fn apart fresh handsOn false W args v W' := by
  have hW0 := hW
  obtain ⟨p, q, hA, hV, rfl, _, _⟩ := hW0
  rw [hvars] at hV
  obtain ⟨rfl, rfl⟩ : gs = [] ∧ q = [] := by
    cases gs with
    | nil => exact ⟨rfl, hV⟩
    | cons g r => exact hV.elim
  obtain ⟨x, h1, h2⟩ := args_tvs hC hfit (fun j t v e1 e2 => hval j t v (by simpa using e1) (by simpa using e2)) hA
  have hx := hlaw x h2
  refine (hp (allFz W) W args x (true, ()) hG (fun b o v e => e) h1 hx).mono ?_
  rintro e W' ⟨cs, fz', rfl, h3, _, ht⟩
  have hb : ∀ b, b < W.heap.size → W'.heap[b]? = W.heap[b]? := fun b hb => ht.block b hb (not_owned _ _)
  have hv : resVal cs = .bool true := by
    match cs, h3 with
    | [c], ⟨⟨arr, k1, k2⟩, _⟩ =>
      have k1' : arr.toList = [Value.bool true] := k1
      show c = _
      rw [k2]
      show arr.getD 0 undef = _
      rw [Array.getD_eq_getD_getElem?, ← Array.getElem?_toList, k1']
      rfl
    | _ :: _ :: _, ⟨_, h⟩ => cases h
    | [], h => exact h.elim
  rw [hv]
  refine ⟨_, rfl, ds, [], p ++ [], [], p, [], hW, ?_, ?_, ?_, keptBut_same ht.os ht.output hb _, fun h => by cases h⟩
  · rw [hs, hrt]
    exact ChangeShapes.trodAll_mk1 (RowKit.shut_bool htb true)
  · rw [hs]
    exact trodAll_same hl hm hsz hb hpt hA
  · rw [hs, hvars]
    rfl
end
end Go.V
namespace Go.V
abbrev Vx := Int × Int × Unit
abbrev Ed := Int × Int × Int × Bool × Int × Int × Unit
abbrev Gr := List Vx × List Ed × List Int × Unit
abbrev En := Int × ByteArray × Unit
abbrev Nm := Int × List Int × Unit
abbrev tI : Ty := .int .i64
abbrev tV : Ty := .pair tI (.pair tI .unit)
abbrev tE : Ty := .pair tI (.pair tI (.pair tI (.pair .bool (.pair tI (.pair tI .unit)))))
abbrev tN : Ty := .pair tI (.pair .str .unit)
abbrev tM : Ty := .pair tI (.pair (.sl tI) .unit)
abbrev tG : Ty := .pair (.sl tV) (.pair (.sl tE) (.pair (.sl tI) .unit))
abbrev TI : Sh := .ty tI
abbrev cP (n : Nat) : Sh := .cst (.ptr n 0 [])
end Go.V
namespace Go.V
noncomputable instance : Codes := ⟨codesOf Go.Proofs.Tryz.prog⟩
theorem cds (f id : Nat) : Codes.cd f id = codesOf Go.Proofs.Tryz.prog f id := rfl
def roundTable : List Int := [1116352408, 1899447441, 3049323471, 3921009573, 961987163, 1508970993, 2453635748, 2870763221, 3624381080, 310598401, 607225278, 1426881987, 1925078388, 2162078206, 2614888103, 3248222580, 3835390401, 4022224774, 264347078, 604807628, 770255983, 1249150122, 1555081692, 1996064986, 2554220882, 2821834349, 2952996808, 3210313671, 3336571891, 3584528711, 113926993, 338241895, 666307205, 773529912, 1294757372, 1396182291, 1695183700, 1986661051, 2177026350, 2456956037, 2730485921, 2820302411, 3259730800, 3345764771, 3516065817, 3600352804, 4094571909, 275423344, 430227734, 506948616, 659060556, 883997877, 958139571, 1322822218, 1537002063, 1747873779, 1955562222, 2024104815, 2227730452, 2361852424, 2428436474, 2756734187, 3204031479, 3329325298]
def cfgZ : List (Option (List ZG)) := [none, some [.nilf], some [.val tI], some [.val tI], some [.val .bool], some [.val (.int .u8)], some [.val (.int .u8)], some [.val tI, .val tI, .val .bool, .val (.int .u8)], some [.val tI, .val tI, .val .bool, .val (.int .u8)], some [.val .str], some [.val .str], some [.val .str], some [.val (.int .u64)], some [.val .str, .val (.int .u64)], some [.val .str, .val (.int .u64)], some [.nilp], some [.nilp], some [.nilp], some [.nilp], some [.nilp], some [.nili], some [.val (.int .i32)], some [.nils], some [.nils], some [.nils], some [.nils, .nils, .nils], some [.nils, .nils, .nils], some [.nils], some [.nils], some [.nilf], some [.val tI, .val .str], some [.val tI, .val .str], some [.nils], some [.nilf], some [.nilf], some [.nils], some [.val tI], none, some [.nilf], none, some [.nilf], some [.nilf], some [.nilf], some [.nilf], some [.nilf], some [.nils], none, some [.nilf], some [.nilf], some [.nils], some [.val tI, .val tI], some [.val tI, .val tI], none, some [.nilf], none, some [.nilf], some [.nilf], some [.nilf], some [.nilf], some [.nils], some [.nils], some [.val tI, .nils], some [.val tI, .nils], some [.nilf], some [.nilf], some [.nils], some [.val tI, .val tI, .nils, .nils, .nils], some [.val tI, .val tI, .nils, .nils, .nils], none, some [.nilf], some [.nilf], some [.nilf], some [.val tI, .val tI, .val tI, .val .bool, .val tI, .val tI], some [.val tI, .val tI, .val tI, .val .bool, .val tI, .val tI], some [.nilf], some [.nils], none, some [.nilf], some [.nilf], some [.nilf], some [.nilf], some [.nilf], some [.nilf], some [.nilf], some [.val (.arr 6 tI)], some [.val tI, .val tI, .val tI, .val tI, .val tI, .val tI, .val .bool, .val tI, .val tI, .val tI, .val tI, .nils, .nils], some [.val tI, .val tI, .val tI, .val tI, .val tI, .val tI, .val .bool, .val tI, .val tI, .val tI, .val tI, .nils, .nils], some [.nilf], some [.nilf], some [.nils], some [.nilf], some [.nilf], some [.val (.arr 5 tI)], some [.nilf], some [.nilf], some [.nilf], some [.nilf], some [.nilf], some [.nilf], none, some [.nilf], some [.nilf], some [.nilf], none, none, some [.nilf], some [.nilp], some [.nilf], some [.val .str, .val tI], some [.val .str, .val tI], some [.val .str, .val tI], some [.val .str, .val tI], some [.nilf], some [.nilf], some [.nilf], some [.nilf], some [.nilf], some [.nilf], some [.nilf], none, some [.nilf], some [.nilf], some [.nilf], some [.nilf], some [.nilf], some [.nilf], some [.nilf], some [.nilf], some [.nilf], some [.nilf], some [.nilp], some [.nilf], some [.nilf], none, some [.nilf], some [.nilf], some [.nilp], some [.nilf], some [.nilf], some [.nils, .nils, .nils], some [.nils, .nils, .nils], some [.nilf], some [.nilf], none, some [.nilf], some [.nilf], some [.nilf], some [.nilf], some [.nilf], some [.nilf], some [.nilf], some [.nilf], some [.nilf], some [.nilf], some [.nilf], none, some [.nilp], none, some [.nilf], some [.nilf], some [.nilf], some [.nilf], some [.nilf], some [.nilf], some [.val (.int .u64)], some [.nilf], some [.nilf], none, some [.nilf], some [.nilf], some [.nilf], some [.nilf], some [.nilf], some [.val (.arr 128 .str)], some [.val (.arr 128 .str)], some [.nilf], some [.nilf], some [.nilf], some [.val (.int .u32)], some [.nils], some [.nilf], some [.nilf], some [.nilf], some [.nilf], some [.nilf], none, some [.nilf], some [.nilf], some [.nilf], some [.nilf], some [.nilp], some [.nilf], none, some [.nilf], some [.nilp], some [.nilf], some [.nilf], some [.nilf], some [.nilp], some [.nilp, .nils], some [.nilp, .nils], some [.nilf], some [.nili], some [.nili], none, some [.nilf], some [.val (.int .u64)], some [.nilf], some [.nilf], some [.val tI], none, some [.nilf], some [.nilf], some [.nilf], some [.nilf], some [.nilf], some [.nilf], some [.nilf], some [.nilf], some [.nilf], some [.nilf], some [.nilf], some [.nilf], some [.nilf], some [.nilf], some [.nilf], some [.nilf], some [.nilf], some [.nilf], some [.nilf], some [.nilf], some [.nilf], some [.nilf], some [.nilp], some [.nilf], some [.nilf], some [.nilf], some [.nilf], some [.nilf], some [.nilf], some [.val (.int .u64)], some [.nilf], some [.nilf], some [.nilf], some [.nilf], some [.val (.arr 8 (.int .u32))], some [.val (.arr 8 (.int .u32))], some [.nilf], some [.nilf], some [.nilf], some [.nilf], some [.nilf], some [.nilf], none, some [.nilf], some [.nilf], some [.nilf], some [.nilp], none, some [.nilf], some [.nilf], some [.nilp], some [.val (.arr 64 (.int .u32))], some [.nilf], some [.nilf], some [.val (.arr 32 (.int .u8))], some [.nilf], some [.nilf], some [.nilf], some [.nilp, .nilp, .nilp, .val .str], some [.nilp, .nilp, .nilp, .val .str], some [], some [], some [], some [.val (.int .u8)], some [.val (.int .u8)], some [.nilf], some [.val (.int .i32)], some [.val (.int .i32)], some [.val (.int .u64), .val (.int .u64), .val (.int .u32), .val (.int .u8), .val (.int .u8), .val (.int .u8), .val (.int .u8), .nilf, .nilp, .val (.int .i32), .val (.int .i32)], some [.val (.int .u64), .val (.int .u64), .val (.int .u32), .val (.int .u8), .val (.int .u8), .val (.int .u8), .val (.int .u8), .nilf, .nilp, .val (.int .i32), .val (.int .i32)]]
def cfg : Cfg where
 unders := [.tup, .fn, .int .i64, .int .i64, .bool, .int .u8, .int .u8, .st [(0, 2), (1, 3), (2, 4), (3, 6)], .st [(0, 2), (1, 3), (2, 4), (3, 6)], .str, .str, .str, .int .u64, .st [(0, 9), (1, 12)], .st [(0, 9), (1, 12)], .ptr 270, .ptr 273, .ptr 280, .st [(0, 17)], .st [(0, 17)], .iface, .int .i32, .sl 51, .sl 73, .sl 3, .st [(0, 22), (1, 23), (2, 24)], .st [(0, 22), (1, 23), (2, 24)], .sl 92, .sl 31, .fn, .st [(0, 3), (1, 9)], .st [(0, 3), (1, 9)], .sl 9, .fn, .fn, .sl 26, .int .i64, .tup, .fn, .tup, .fn, .fn, .fn, .fn, .fn, .sl 28, .tup, .fn, .fn, .sl 5, .st [(0, 3), (1, 3)], .st [(0, 3), (1, 3)], .tup, .fn, .tup, .fn, .fn, .fn, .fn, .sl 62, .sl 84, .st [(0, 3), (1, 24)], .st [(0, 3), (1, 24)], .fn, .fn, .sl 59, .st [(0, 51), (2, 24), (3, 23), (4, 59)], .st [(0, 51), (2, 24), (3, 23), (4, 59)], .tup, .fn, .fn, .fn, .st [(0, 3), (1, 3), (2, 3), (3, 4), (4, 3), (5, 3)], .st [(0, 3), (1, 3), (2, 3), (3, 4), (4, 3), (5, 3)], .fn, .sl 86, .tup, .fn, .fn, .fn, .fn, .fn, .fn, .fn, .arr 6 3, .st [(0, 3), (1, 51), (3, 73), (9, 3), (10, 3), (11, 24), (12, 24)], .st [(0, 3), (1, 51), (3, 73), (9, 3), (10, 3), (11, 24), (12, 24)], .fn, .fn, .sl 4, .fn, .fn, .arr 5 3, .fn, .fn, .fn, .fn, .fn, .fn, .tup, .fn, .fn, .fn, .map 3 73, .tup, .fn, .ptr 111, .fn, .st [(0, 9), (1, 3)], .st [(0, 9), (1, 3)], .st [(0, 109)], .st [(0, 109)], .fn, .fn, .fn, .fn, .fn, .fn, .fn, .tup, .fn, .fn, .fn, .fn, .fn, .fn, .fn, .fn, .fn, .fn, .ptr 174, .fn, .fn, .tup, .fn, .fn, .ptr 140, .fn, .fn, .st [(0, 26)], .st [(0, 26)], .fn, .fn, .map 3 142, .fn, .fn, .fn, .fn, .fn, .fn, .fn, .fn, .fn, .fn, .fn, .tup, .ptr 109, .tup, .fn, .fn, .fn, .fn, .fn, .fn, .int .u64, .fn, .fn, .tup, .fn, .fn, .fn, .fn, .fn, .arr 128 9, .arr 128 9, .fn, .fn, .fn, .int .u32, .sl 178, .fn, .fn, .fn, .fn, .fn, .tup, .fn, .fn, .fn, .fn, .ptr 73, .fn, .map 3 194, .fn, .ptr 3, .fn, .fn, .fn, .ptr 200, .st [(0, 198), (1, 49)], .st [(0, 198), (1, 49)], .fn, .iface, .iface, .tup, .fn, .int .u64, .fn, .fn, .int .i64, .tup, .fn, .fn, .fn, .fn, .fn, .fn, .fn, .fn, .fn, .fn, .fn, .fn, .fn, .fn, .fn, .fn, .fn, .fn, .fn, .fn, .fn, .fn, .ptr 5, .fn, .fn, .fn, .fn, .fn, .fn, .int .u64, .fn, .fn, .fn, .fn, .arr 8 178, .arr 8 178, .fn, .fn, .fn, .fn, .fn, .fn, .oth, .fn, .fn, .fn, .ptr 240, .tup, .fn, .fn, .ptr 246, .arr 64 178, .fn, .fn, .arr 32 5, .fn, .fn, .fn, .st [(0, 17), (1, 17), (2, 17), (3, 9)], .st [(0, 17), (1, 17), (2, 17), (3, 9)], .arr 0 16, .st [(0, 271)], .st [(0, 271)], .int .u8, .int .u8, .fn, .int .i32, .int .i32, .st [(0, 12), (1, 12), (2, 178), (3, 274), (4, 5), (5, 5), (6, 275), (7, 276), (8, 233), (9, 277), (10, 278)], .st [(0, 12), (1, 12), (2, 178), (3, 274), (4, 5), (5, 5), (6, 275), (7, 276), (8, 233), (9, 277), (10, 278)]]
 sizes := [1, 1, 1, 1, 1, 1, 1, 4, 4, 1, 1, 1, 1, 2, 2, 1, 1, 1, 1, 1, 1, 1, 1, 1, 1, 3, 3, 1, 1, 1, 2, 2, 1, 1, 1, 1, 1, 1, 1, 1, 1, 1, 1, 1, 1, 1, 1, 1, 1, 1, 2, 2, 1, 1, 1, 1, 1, 1, 1, 1, 1, 2, 2, 1, 1, 1, 5, 5, 1, 1, 1, 1, 6, 6, 1, 1, 1, 1, 1, 1, 1, 1, 1, 1, 6, 13, 13, 1, 1, 1, 1, 1, 5, 1, 1, 1, 1, 1, 1, 1, 1, 1, 1, 1, 1, 1, 1, 1, 2, 2, 2, 2, 1, 1, 1, 1, 1, 1, 1, 1, 1, 1, 1, 1, 1, 1, 1, 1, 1, 1, 1, 1, 1, 1, 1, 1, 1, 1, 1, 3, 3, 1, 1, 1, 1, 1, 1, 1, 1, 1, 1, 1, 1, 1, 1, 1, 1, 1, 1, 1, 1, 1, 1, 1, 1, 1, 1, 1, 1, 1, 1, 1, 1, 128, 128, 1, 1, 1, 1, 1, 1, 1, 1, 1, 1, 1, 1, 1, 1, 1, 1, 1, 1, 1, 1, 1, 1, 1, 1, 2, 2, 1, 1, 1, 1, 1, 1, 1, 1, 1, 1, 1, 1, 1, 1, 1, 1, 1, 1, 1, 1, 1, 1, 1, 1, 1, 1, 1, 1, 1, 1, 1, 1, 1, 1, 1, 1, 1, 1, 1, 1, 1, 1, 1, 1, 8, 8, 1, 1, 1, 1, 1, 1, 1, 1, 1, 1, 1, 1, 1, 1, 1, 64, 1, 1, 32, 1, 1, 1, 4, 4, 0, 0, 0, 1, 1, 1, 1, 1, 11, 11]
 tys := [none, none, some tI, some tI, some .bool, some (.int .u8), some (.int .u8), some (.pair tI (.pair tI (.pair .bool (.pair (.int .u8) .unit)))), some (.pair tI (.pair tI (.pair .bool (.pair (.int .u8) .unit)))), some .str, some .str, some .str, some (.int .u64), some (.pair .str (.pair (.int .u64) .unit)), some (.pair .str (.pair (.int .u64) .unit)), none, none, none, none, none, none, some (.int .i32), some (.sl tV), some (.sl tE), some (.sl tI), some tG, some tG, some (.sl (.arr 5 tI)), some (.sl tN), none, some tN, some tN, some (.sl .str), none, none, some (.sl tG), some tI, none, none, none, none, none, none, none, none, some (.sl (.sl tN)), none, none, none, some (.sl (.int .u8)), some tV, some tV, none, none, none, none, none, none, none, some (.sl tM), some (.sl (.arr 6 tI)), some tM, some tM, none, none, some (.sl (.sl tM)), some (.pair tV (.pair (.sl tI) (.pair (.sl tE) (.pair (.sl tM) .unit)))), some (.pair tV (.pair (.sl tI) (.pair (.sl tE) (.pair (.sl tM) .unit)))), none, none, none, none, some tE, some tE, none, some (.sl (.pair tI (.pair tV (.pair tE (.pair tI (.pair tI (.pair (.sl tI) (.pair (.sl tI) .unit)))))))), none, none, none, none, none, none, none, none, some (.arr 6 tI), some (.pair tI (.pair tV (.pair tE (.pair tI (.pair tI (.pair (.sl tI) (.pair (.sl tI) .unit))))))), some (.pair tI (.pair tV (.pair tE (.pair tI (.pair tI (.pair (.sl tI) (.pair (.sl tI) .unit))))))), none, none, some (.sl .bool), none, none, some (.arr 5 tI), none, none, none, none, none, none, none, none, none, none, none, none, none, none, none, some (.pair .str (.pair tI .unit)), some (.pair .str (.pair tI .unit)), some (.pair (.pair .str (.pair tI .unit)) .unit), some (.pair (.pair .str (.pair tI .unit)) .unit), none, none, none, none, none, none, none, none, none, none, none, none, none, none, none, none, none, none, none, none, none, none, none, none, none, none, none, some (.pair tG .unit), some (.pair tG .unit), none, none, none, none, none, none, none, none, none, none, none, none, none, none, none, none, none, none, none, none, none, none, none, some (.int .u64), none, none, none, none, none, none, none, none, some (.arr 128 .str), some (.arr 128 .str), none, none, none, some (.int .u32), some (.sl (.int .u32)), none, none, none, none, none, none, none, none, none, none, none, none, none, none, none, none, none, none, none, none, none, none, none, none, none, none, some (.int .u64), none, none, some tI, none, none, none, none, none, none, none, none, none, none, none, none, none, none, none, none, none, none, none, none, none, none, none, none, none, none, none, none, none, none, some (.int .u64), none, none, none, none, some (.arr 8 (.int .u32)), some (.arr 8 (.int .u32)), none, none, none, none, none, none, none, none, none, none, none, none, none, none, none, some (.arr 64 (.int .u32)), none, none, some (.arr 32 (.int .u8)), none, none, none, none, none, none, none, none, some (.int .u8), some (.int .u8), none, some (.int .i32), some (.int .i32), none, none]
 bytes := [0, 8, 8, 8, 1, 1, 1, 24, 24, 16, 16, 16, 8, 24, 24, 8, 8, 8, 8, 8, 16, 4, 24, 24, 24, 72, 72, 24, 24, 8, 24, 24, 24, 8, 8, 24, 8, 0, 8, 0, 8, 8, 8, 8, 8, 24, 0, 8, 8, 24, 16, 16, 0, 8, 0, 8, 8, 8, 8, 24, 24, 32, 32, 8, 8, 24, 88, 88, 0, 8, 8, 8, 48, 48, 8, 24, 0, 8, 8, 8, 8, 8, 8, 8, 48, 136, 136, 8, 8, 24, 8, 8, 40, 8, 8, 8, 8, 8, 8, 0, 8, 8, 8, 8, 0, 8, 8, 8, 24, 24, 24, 24, 8, 8, 8, 8, 8, 8, 8, 0, 8, 8, 8, 8, 8, 8, 8, 8, 8, 8, 8, 8, 8, 0, 8, 8, 8, 8, 8, 72, 72, 8, 8, 8, 8, 8, 8, 8, 8, 8, 8, 8, 8, 8, 8, 0, 8, 0, 8, 8, 8, 8, 8, 8, 8, 8, 8, 0, 8, 8, 8, 8, 8, 2048, 2048, 8, 8, 8, 4, 24, 8, 8, 8, 8, 8, 0, 8, 8, 8, 8, 8, 8, 8, 8, 8, 8, 8, 8, 8, 32, 32, 8, 16, 16, 0, 8, 8, 8, 8, 8, 0, 8, 8, 8, 8, 8, 8, 8, 8, 8, 8, 8, 8, 8, 8, 8, 8, 8, 8, 8, 8, 8, 8, 8, 8, 8, 8, 8, 8, 8, 8, 8, 8, 8, 8, 32, 32, 8, 8, 8, 8, 8, 8, 8, 8, 8, 8, 8, 0, 8, 8, 8, 256, 8, 8, 32, 8, 8, 8, 40, 40, 0, 0, 0, 1, 1, 8, 4, 4, 48, 48]
 zeros := cfgZ.map (Option.map (List.map ZG.av))
 glob := fun n => bif Nat.beq n 0 then some (.eptr [.val (.arr 64 (.int .u32)) roundTable]) else none
 eqs := [31, 51, 73]
 frz := [24]
theorem cfg_ok : CfgOK cfg Go.Proofs.Tryz.prog := cfgOK_of cfgZ 281 (by kernel_rfl) rfl (Nat.le_of_ble_eq_true (by kernel_rfl)) (Nat.le_of_ble_eq_true (by kernel_rfl)) (Nat.le_of_ble_eq_true (by kernel_rfl)) (Nat.le_of_ble_eq_true (by kernel_rfl)) (by kernel_rfl)
def cfg2 : Cfg := { cfg with own := [22] }
theorem cfg2_ok : CfgOK cfg2 Go.Proofs.Tryz.prog := { cfg_ok with }
end Go.V
namespace Go.Proofs.YtfjpfjcdejjkeaaGreatDoor
open Go Go.V Go.ChangeShapes
def litInt {H : Type} : DataW H → Int
 | .lit (.int _ n) => n
 | _ => 0
def litsOf {H : Type} : DataW H → List Int
 | .agg l => l.map litInt
 | _ => []
theorem laid_table : litsOf (Rows.laid_clearway_digest_round : DataW Unit) = roundTable := by kernel_rfl
theorem arr_words {H : Type} {enc : TypeId × Value → H} {P : Program} {w : World} {sp : Nat → Bool} {held : Bool} {t e : TypeId} {n fuel : Nat} {k : IntKind} {cs : List Value} {x : DataW H × List MemPlace}
  (ht : P.underlying t = some (.array n e)) (he : P.underlying e = some (.int k)) (h1 : P.cellsOf e = 1) (ht1 : P.cellsOf t = n) (h : DataW.trod enc P w 0 sp held fuel t cs = some x) :
  cs = (litsOf x.1).map (Value.int k) ∧ (litsOf x.1).length = n := by
 obtain ⟨xs, m, _, rfl, hl, hxs, hi⟩ := DataW.trod_array ht h
 rw [h1] at hi
 have hlen : cs.length = n := by rw [hl, ht1]
 have key : ∀ i, i < n → cs[i]? = ((xs.map (·.1)).map (fun d => Value.int k (litInt d)))[i]? := by
  intro i hn
  have := hi i hn
  rw [Nat.mul_one, List.getElem?_eq_getElem (by omega)] at this
  have hc : (cs.drop i).take 1 = [cs[i]'(by omega)] := by
   rw [List.drop_eq_getElem_cons (by omega)]
   rfl
  rw [hc] at this
  obtain ⟨v, e1, e2, _⟩ := DataW.trod_int he this
  simp only [List.cons.injEq, and_true] at e1
  rw [List.getElem?_map, List.getElem?_map, List.getElem?_eq_getElem (by omega), List.getElem?_eq_getElem (by omega), Option.map_some, Option.map_some, e2, e1]
  rfl
 refine ⟨?_, by simp [litsOf, hxs]⟩
 apply List.ext_getElem?
 intro i
 by_cases hi : i < n
 ·rw [key i hi]
  simp only [litsOf, List.getElem?_map, Option.map_map]
  rfl
 ·rw [List.getElem?_eq_none (by omega), List.getElem?_eq_none (by simp [litsOf, hxs]; omega)]
theorem elems_words {fz : Nat → Nat → Option Value} {k : IntKind} : ∀ (l : List Int), Elems (CR fz (.int k)) l (l.map (Value.int k))
 | [] => rfl
 | x :: l => ⟨[.int k x], l.map (Value.int k), rfl, rfl, elems_words l⟩
theorem glob_of_laid {W : World} (h : laidMetH Tryz.prog [("clearway/digest.round", Rows.laid_clearway_digest_round)] W) : GlobOK cfg (allFz W) := by
 have h' : laidMet Tryz.prog [("clearway/digest.round", Rows.laid_clearway_digest_round)] W := h
 obtain ⟨ps, ⟨g, t, cs, fuel, p, q, e1, e2, e3, e4, _, _⟩, _, _⟩ := h'
 have hg : (Tryz.prog.globalNamed "clearway/digest.round") = some 0 := by kernel_rfl
 rw [hg] at e1
 obtain rfl := Option.some.inj e1
 have ht : (Tryz.prog.globals[0]?).map (·.type) = some 262 := by kernel_rfl
 rw [ht] at e2
 obtain rfl := Option.some.inj e2
 obtain ⟨k1, k2⟩ := arr_words (show Tryz.prog.underlying 262 = some (.array 64 178) by kernel_rfl) (show Tryz.prog.underlying 178 = some (.int .u32) by kernel_rfl) (by kernel_rfl) (by kernel_rfl) e4
 have hl : litsOf (Rows.laid_clearway_digest_round : DataW Unit) = roundTable := laid_table
 simp only at k1 k2
 rw [hl] at k1 k2
 intro n v hv
 have hv' : (bif Nat.beq n 0 then some (AV.eptr [.val (.arr 64 (.int .u32)) roundTable]) else none) = some v := hv
 cases hn : Nat.beq n 0 with
 | false => rw [hn] at hv'; cases hv'
 | true =>
  rw [hn] at hv'
  simp only [cond_true, Option.some.injEq] at hv'
  subst hv'
  have := Nat.eq_of_beq_eq_true hn
  subst this
  refine ⟨_, roundTable.map (Value.int .u32), rfl, ⟨roundTable.map (Value.int .u32), [], by simp, ⟨k2, elems_words _⟩, rfl⟩, ?_⟩
  intro j v e
  show W.cell? ⟨0, 0 + j, none⟩ = some v
  rw [Nat.zero_add, World.var?_cell hg e3 j, ← Array.getElem?_toList, k1]
  exact e
theorem trodAll_len {H : Type} {enc : TypeId × Value → H} {P : Program} {w : World} {base : Nat} {sp : Nat → Bool} {held : Bool} : ∀ {ts : List TypeId} {vs : List Value} {ds : List (DataW H)} {p : List MemPlace}, DataW.TrodAll enc P w base sp held ts vs ds p → ds.length = ts.length
 | [], [], [], _, _ => rfl
 | _ :: _, _ :: _, _ :: _, _, ⟨_, _, _, h, _⟩ => by simp [trodAll_len h]
 | [], [], _ :: _, _, h => h.elim
 | [], _ :: _, _, _, h => h.elim
 | _ :: _, [], _, _, h => h.elim
 | _ :: _, _ :: _, [], _, h => h.elim
theorem seatOwn : ownKnob Tryz.prog.godebug = none := by kernel_rfl
theorem seatLaidOut : laidOutB Tryz.prog = true := by kernel_rfl
theorem seatSlices : ∀ t e, t < Tryz.prog.types.size → Tryz.prog.underlying t = some (.slice e) → 0 < Tryz.prog.cellsOf e := slices_full_of Tryz.prog (by kernel_rfl)
theorem seatMaps : mapsRowed Tryz.prog = true := by kernel_rfl
noncomputable def laidWorld (os : Os) : World :=
  let w0 := World.holding Tryz.prog os ⟨#[], #[], []⟩
  { w0 with heap := w0.heap.modify 0 fun
      | .cells _ t frozen => .cells (roundTable.map (Value.int .u32)).toArray t frozen
      | o => o }
theorem laidWorld_met (os : Os) (args : Array Value) : laidMetH Tryz.prog [("clearway/digest.round", Rows.laid_clearway_digest_round)] ((laidWorld os).forCall (fun _ _ => 0) ⟨#[], args, []⟩).memory :=
 show laidMet _ _ _ from laidMet_of_run' 8 (by kernel_rfl) (by kernel_rfl)
end Go.Proofs.YtfjpfjcdejjkeaaGreatDoor
namespace Go.Proofs
open Go.Shelf
def Tryz.lays166_ren : Ren :=
  { f := fun x => match x with
      | 166 => 169
      | 240 => 205
      | 276 => 228
      | 169 => 170
      | n => n,
    t := fun x => match x with
      | 70 => 198
      | 72 => 200
      | 37 => 49
      | 75 => 203
      | 80 => 175
      | 164 => 253
      | 127 => 233
      | n => n,
    g := fun n => n }
theorem Tryz.lays166 : Lays.n166 Tryz.prog Tryz.lays166_ren :=
  { mixed := by kernel_rfl, f166 := Tryz.func169.trans (congrArg some (by kernel_rfl)), f240 := Tryz.func205.trans (congrArg some (by kernel_rfl)), f276 := Tryz.func228.trans (congrArg some (by kernel_rfl)),
    t0 := Tryz.underlying0, a0 := Tryz.isAgg0, z0 := Tryz.sizeOf0, v0 := Tryz.zeroValue0, t3 := Tryz.underlying3, a3 := Tryz.isAgg3, z3 := Tryz.sizeOf3, v3 := Tryz.zeroValue3,
    t4 := Tryz.underlying4, a4 := Tryz.isAgg4, z4 := Tryz.sizeOf4, v4 := Tryz.zeroValue4, t9 := Tryz.underlying9, a9 := Tryz.isAgg9, z9 := Tryz.sizeOf9, v9 := Tryz.zeroValue9,
    t20 := Tryz.underlying20, a20 := Tryz.isAgg20, z20 := Tryz.sizeOf20, v20 := Tryz.zeroValue20, t37 := Tryz.underlying49, a37 := Tryz.isAgg49, z37 := Tryz.sizeOf49, v37 := Tryz.zeroValue49,
    t70 := Tryz.underlying198, a70 := Tryz.isAgg198, z70 := Tryz.sizeOf198, v70 := Tryz.zeroValue198, t72 := Tryz.underlying200, a72 := Tryz.isAgg200, z72 := Tryz.sizeOf200, v72 := Tryz.zeroValue200,
    t75 := Tryz.underlying203, a75 := Tryz.isAgg203, z75 := Tryz.sizeOf203, v75 := Tryz.zeroValue203, t164 := Tryz.underlying253, a164 := Tryz.isAgg253, z164 := Tryz.sizeOf253, v164 := Tryz.zeroValue253 }
theorem Tryz.lays169 : Lays.n169 Tryz.prog Tryz.lays166_ren :=
  { mixed := by kernel_rfl, f169 := Tryz.func170.trans (congrArg some (by kernel_rfl)),
    t0 := Tryz.underlying0, a0 := Tryz.isAgg0, z0 := Tryz.sizeOf0, v0 := Tryz.zeroValue0, t3 := Tryz.underlying3, a3 := Tryz.isAgg3, z3 := Tryz.sizeOf3, v3 := Tryz.zeroValue3,
    t9 := Tryz.underlying9, a9 := Tryz.isAgg9, z9 := Tryz.sizeOf9, v9 := Tryz.zeroValue9, t37 := Tryz.underlying49, a37 := Tryz.isAgg49, z37 := Tryz.sizeOf49, v37 := Tryz.zeroValue49,
    t70 := Tryz.underlying198, a70 := Tryz.isAgg198, z70 := Tryz.sizeOf198, v70 := Tryz.zeroValue198, t72 := Tryz.underlying200, a72 := Tryz.isAgg200, z72 := Tryz.sizeOf200, v72 := Tryz.zeroValue200,
    t127 := Tryz.underlying233, a127 := Tryz.isAgg233, z127 := Tryz.sizeOf233, v127 := Tryz.zeroValue233 }
theorem Tryz.builderExtra : Builder.Extra Tryz.prog Tryz.lays166_ren where
 sizeBuilder := by kernel_rfl
 liesBuilder := by kernel_rfl
 t5 := Tryz.underlying5
 a5 := Tryz.isAgg5
 z5 := Tryz.sizeOf5
 v5 := Tryz.zeroValue5
 infoByte := by kernel_rfl
 cellsByte := by kernel_rfl
 sizeByte := by kernel_rfl
 neB5 := by decide
theorem Tryz.Builder_WriteString (B b : Nat) (bs : List Value) (s : ByteArray) (w : World) (h : Lib.IsBuilderF 200 5 B b bs w) (hlen : bs.length + s.size ≤ 140737488355328) (hBw : B ≤ w.heap.size) :
  Calls Tryz.prog 169 #[.pointer (some ⟨b, 0, none⟩), .string s] w fun e w' => e = .returned (.tuple #[.int .i64 s.size, .nilIface]) ∧ (Lib.BuilderAtF 200 5 B b (.pointer (some ⟨b, 0, none⟩)) (bs ++ Lib.strCells s) w' ∧ RowKit.Below B w w' ∧ Lib.OthersKept 5 (some b) w w') :=
 Any.Builder_WriteString_k Tryz.lays166 Tryz.builderExtra B b bs s w h hlen hBw
theorem Tryz.Builder_String (B b : Nat) (l : List UInt8) (w : World) (h : Lib.IsBuilderF 200 5 B b (Lib.byteCells l) w) (hBw : B ≤ w.heap.size) :
  Calls Tryz.prog 170 #[.pointer (some ⟨b, 0, none⟩)] w fun e w' => e = .returned (.string ⟨l.toArray⟩) ∧ (Lib.IsBuilderF 200 5 B b (Lib.byteCells l) w' ∧ RowKit.Below B w w' ∧ Lib.OthersKept 5 (some b) w w') :=
 Any.Builder_String_any_k Tryz.lays169 Tryz.builderExtra B b l w h hBw
end Go.Proofs
namespace Go.V.G
def f227_l0_b905000_head : Ann := { env := [(0, .cst (.yld 905)), (1, cP 20001)], stk := [[(0, .cst (.yld 905))], [(2, .ty .str), (3, TI), (4, cP 4)]], bxs := [(905, .loop false 168 5 [(4, cP 4)]), (20001, .var [.ty (.int .u64)]), (4, .var [.cst (.row 905011030 .whole)]), (905011030, .row (.int .u8) false)] }
def f227_l0_b905000_outs : List (Ex × Ann) := [(.ret, { env := [], stk := [[(0, .cst (.yld 905))], [(2, .ty .str), (3, TI), (4, cP 4)]], bxs := [(905, .loop false 168 5 [(4, cP 4)]), (4, .var [.cst (.row 905011030 .whole)]), (905011030, .row (.int .u8) false)] })]
def f227_l0_b905000 (k1t2 : ByteArray) (k1t3 : Int) : Nat → Int → (List Int) → Option (outDen f227_l0_b905000_outs)
 | 0, _, _ => none
 | k + 1, b20001g0, r905011030 =>
  let v5 : Int := (IntKind.wrap .u8 (andV .u64 b20001g0 (127 : Int)))
  bif (!(decide (b20001g0 < (128 : Int)))) then
   bif (decide (r905011030.length + ([(orV .u8 v5 (128 : Int))] : List Int).length ≤ appLim)) then
    bif (decide (b20001g0 < (128 : Int))) then
     some ((), ((), (k1t2, k1t3, ()), ()), ((), (), (r905011030 ++ ([(orV .u8 v5 (128 : Int))] : List Int)), ()))
    else
     f227_l0_b905000 k1t2 k1t3 k (shrV .u64 b20001g0 (7 : Int)) (r905011030 ++ ([(orV .u8 v5 (128 : Int))] : List Int))
   else none
  else
   bif (decide (r905011030.length + ([v5] : List Int).length ≤ appLim)) then
    bif (decide (b20001g0 < (128 : Int))) then
     some ((), ((), (k1t2, k1t3, ()), ()), ((), (), (r905011030 ++ ([v5] : List Int)), ()))
    else
     f227_l0_b905000 k1t2 k1t3 k (shrV .u64 b20001g0 (7 : Int)) (r905011030 ++ ([v5] : List Int))
   else none
def f227_l0_b905000_n (n : Nat) (x : f227_l0_b905000_head.den) := f227_l0_b905000 x.2.1.2.1.1 x.2.1.2.1.2.1 n x.2.2.2.1.1 x.2.2.2.2.2.1
def f227_l0_b905000_spec : LSpec := { thaws := [.cell 4 0 905011030 (.int .u8)], head := f227_l0_b905000_head, outs := f227_l0_b905000_outs, fn := fun x => f227_l0_b905000_n ((10 : Nat)) x }
def f168 (a0 : Int) : Option (ByteArray × Int × Unit) :=
 let v1 : Bool := (decide (a0 < (-4611686018427387903 : Int)))
 bif v1 then
  some ((⟨#[]⟩ : ByteArray), (10 : Int), ())
 else
  let v2 : Bool := (decide (a0 > (4611686018427387903 : Int)))
  bif v2 then
   some ((⟨#[]⟩ : ByteArray), (10 : Int), ())
  else
   let v3 : Int := (shlV .u64 (IntKind.wrap .u64 a0) (1 : Int))
   let v4 : Int := (IntKind.wrap .u64 (shrV .i64 a0 (63 : Int)))
   (f227_l0_b905000 (⟨#[]⟩ : ByteArray) (0 : Int) ((10 : Nat)) (xorV .u64 v3 v4) []).bind fun o6 =>
   let u9 : (List Int) := o6.2.2.2.2.1
   some ((ofBytes u9), (0 : Int), ())
def f168_spec : PSpec := { args := [tI], res := [.str, tI], fn := fun x => f168 x.1 }
noncomputable def f168_code : Code := Go.Proofs.Tryz.f168.body.getD .skip
noncomputable def f168_code_227 : Code := Go.Proofs.Tryz.f227.body.getD .skip
noncomputable def f168_env : Env0 := { C := cfg, P := [], L := [(⟨11, 905000, 227, 0⟩, f227_l0_b905000_spec)], F := [(168, Go.Proofs.Tryz.f168), (204, Go.Proofs.Tryz.f204), (227, Go.Proofs.Tryz.f227)], S := [], R := [], I := [], tot := [] }
theorem f227_l0_b905000_ok : LoopOK f168_env 11 227 905000 (loopAt f168_code_227 0) f227_l0_b905000_spec :=
 loopOK_of (by kernel_rfl) f227_l0_b905000_n (fun x o h => ⟨_, h⟩) (fun x => by kernel_rfl) (fun n x => by kernel_rfl)
theorem f168_run (x : tysDen (f168_spec).args) : runF f168_env 168 Go.Proofs.Tryz.f168 f168_code (f168_spec).args (f168_spec).res x = f168_spec.fn x := by kernel_rfl
theorem f168_enter : Enterable Go.Proofs.Tryz.prog 168 := enter_fun Go.Proofs.Tryz.func168 (by kernel_rfl)
theorem f168_envOK : EnvOK Go.Proofs.Tryz.prog f168_env := envOK_of cds (by kernel_rfl) cfg_ok trivial trivial ⟨⟨Go.Proofs.Tryz.func168, by kernel_rfl⟩, ⟨Go.Proofs.Tryz.func204, by kernel_rfl⟩, ⟨Go.Proofs.Tryz.func227, by kernel_rfl⟩, trivial⟩ ⟨⟨Go.Proofs.Tryz.f227, f168_code_227, rfl, rfl, f227_l0_b905000_ok⟩, trivial⟩ trivial trivial
theorem f168_pure : PureOK Go.Proofs.Tryz.prog cfg 168 f168_spec := pure_of_run f168_envOK (fn := Go.Proofs.Tryz.f168) (c := f168_code) rfl rfl f168_spec (fun x _ h => (f168_run x).trans h)
end Go.V.G
namespace Go.V.G
def intsGo : List Int → Option ByteArray
 | [] => some ⟨#[]⟩
 | n :: l => (f168 n).bind fun y => bif decide (y.1.size ≤ 100) then (intsGo l).bind fun r => some (y.1 ++ r) else none
end Go.V.G
namespace Go.Proofs
open Go.RowKit Go.V Go.V.G
theorem putInt_calls {fz : Nat → Nat → Option Value} (hG : GlobOK cfg fz) {w : World} (hf : FzOK (.of fz) w) {n : Int} {y} (hy : f168 n = some y) :
  Calls Tryz.prog 168 #[.int .i64 n] w fun e w' => e = .returned (.tuple #[.string y.1, .int .i64 y.2.1]) ∧ Below w.heap.size w w' := by
 refine Calls.mono (f168_pure fz w #[.int .i64 n] (n, ()) y hG hf ⟨⟨#[.int .i64 n], rfl, rfl⟩, rfl⟩ hy) ?_
 rintro e w' ⟨cs, fz', rfl, h1, h2, h3⟩
 refine ⟨?_, ⟨h3.os, h3.tape, h3.output, h3.size, fun b hb => h3.block b hb (V.not_owned _ _)⟩⟩
 match cs, h1 with
 | [c1, c2], ⟨⟨a1, e1, e2⟩, ⟨a2, e3, e4⟩, _⟩ =>
  have ha1 : a1.toList = [.string y.1] := e1
  have ha2 : a2.toList = [.int .i64 y.2.1] := e3
  have hc1 : c1 = .string y.1 := by
   rw [e2]
   show a1.getD 0 undef = _
   rw [Array.getD_eq_getD_getElem?, ← Array.getElem?_toList, ha1]
   rfl
  have hc2 : c2 = .int .i64 y.2.1 := by
   rw [e4]
   show a2.getD 0 undef = _
   rw [Array.getD_eq_getD_getElem?, ← Array.getElem?_toList, ha2]
   rfl
  rw [hc1, hc2]
  rfl
theorem heap_below {w w' : World} (hk : Below w.heap.size w w') {b : Nat} {o : Obj} (h : w.heap[b]? = some o) : w'.heap[b]? = some o := by
 rw [hk.block b (Array.getElem?_eq_some_iff.1 h).1, h]
theorem builder_below {B b : Nat} {bs : List Value} {w w' : World} (h : Lib.IsBuilderF 200 5 B b bs w) (hk : Below w.heap.size w w') : Lib.IsBuilderF 200 5 B b bs w' := by
 have main : ∀ p, Lib.BuilderAtF 200 5 B b p bs w → Lib.BuilderAtF 200 5 B b p bs w' := by
  rintro p ⟨h1, v, h2, ⟨h3, h4⟩, h5⟩
  refine ⟨h1, v, heap_below hk h2, ⟨h3, ?_⟩, h5⟩
  rcases h4 with h4 | ⟨g, cap, cur, fz, e1, e2, e3, e4⟩
  ·exact .inl h4
  ·exact .inr ⟨g, cap, cur, fz, e1, e2, heap_below hk e3, e4⟩
 exact h.imp (main _) (main _)
theorem strCells_bytes (s : ByteArray) : Lib.strCells s = Lib.byteCells s.data.toList := rfl
theorem byteCells_app (a b : List UInt8) : Lib.byteCells (a ++ b) = Lib.byteCells a ++ Lib.byteCells b := by simp [Lib.byteCells]
theorem byteCells_len (a : List UInt8) : (Lib.byteCells a).length = a.length := by simp [Lib.byteCells]
set_option maxHeartbeats 4000000 in
set_option maxRecDepth 1000000 in
theorem ints_walk {fz : Nat → Nat → Option Value} (hG : GlobOK cfg fz) (l : List Int) (base : Option Addr) (cap : Nat) (w : World) (hf : FzOK (.of fz) w) (hl : l.length ≤ 1000) (s : ByteArray) (hs : intsGo l = some s)
  (hb : ∀ j (_ : j < l.length), ∃ blk off, base = some ⟨blk, off, none⟩ ∧ blk < w.heap.size ∧ w.cell? ⟨blk, off + j, none⟩ = some (.int .i64 l[j])) :
  Calls Tryz.prog 110 #[.slice base l.length cap] w fun e w' => e = .returned (.string s) ∧ Below w.heap.size w w' := by
 have hff : ∀ wr, Below w.heap.size w wr → FzOK (.of fz) wr := by
  intro wr hbw b o v e
  have := hf b o v e
  rw [← this]
  have hlt : b < w.heap.size := by
   unfold World.cell? at this
   cases hh : w.heap[b]? with
   | none => simp [hh] at this
   | some x => exact (Array.getElem?_eq_some_iff.1 hh).1
  simp only [World.cell?, hbw.block b hlt]
 go_enter Tryz.func110, Tryz.ntmps110
 go_wp2
 go_loopw [10] (fun i wr => ∃ (k : Nat) (acc : List UInt8), k ≤ l.length ∧ i = .int .i64 k ∧ Lib.IsBuilderF 200 5 w.heap.size w.heap.size (Lib.byteCells acc) wr ∧ Below w.heap.size w wr ∧ acc.length ≤ 100 * k ∧ ∃ r, intsGo (l.drop k) = some r ∧ acc ++ r.data.toList = s.data.toList) (fun i _ => l.length - (intOf i).toNat)
 case atStart =>
  exact ⟨0, [], Nat.zero_le _, rfl, Lib.IsBuilderF.of (Lib.fresh_isBuilder 200 5 w), (Below.refl _ w).alloc (Nat.le_refl _) _, by simp, s, by simpa using hs, by simp⟩
 case round =>
  obtain ⟨k, acc, hk, rfl, hI, hbw, hal, r, hr, hac⟩ := hrel
  have hsz := hbw.size
  by_cases hlt : k < l.length
  ·obtain ⟨blk, off, rfl, hblk, hcell⟩ := hb k hlt
   have hcr : wr.cell? ⟨blk, off + k, none⟩ = some (.int .i64 l[k]) := by
    rw [← hcell]
    simp only [World.cell?, hbw.block blk hblk]
   rw [List.drop_eq_getElem_cons hlt] at hr
   simp only [intsGo, Option.bind_eq_some_iff] at hr
   obtain ⟨y, hy, hr⟩ := hr
   cases h100 : decide (y.1.size ≤ 100) with
   | false => rw [h100] at hr; cases hr
   | true =>
    rw [h100, cond_true, Option.bind_eq_some_iff] at hr
    obtain ⟨r', hr', hrr⟩ := hr
    have h100' := of_decide_eq_true h100
    go_wp2_with (go_at_call 168; refine (putInt_calls hG (hff _ hbw) hy).mono ?_)
    rintro e W1 ⟨rfl, b1⟩
    have hI1 := builder_below hI b1
    have hbw1 : Below w.heap.size w W1 := hbw.trans ⟨b1.os, b1.tape, b1.output, b1.size, fun k hk => b1.block k (by omega)⟩
    have hsz1 := hbw1.size
    have hlen : (Lib.byteCells acc).length + y.1.size ≤ 140737488355328 := by rw [byteCells_len]; omega
    go_wp2_with (go_at_call 169; refine (Tryz.Builder_WriteString w.heap.size w.heap.size _ y.1 _ hI1 hlen hsz1).mono ?_)
    rintro e W2 ⟨rfl, h1, b2, _⟩
    go_wp2
    go_roundw
    case rel =>
     have hwrap : IntKind.i64.wrap ((k : Int) + 1) = ((k + 1 : Nat) : Int) := by simp [IntKind.wrap, IntKind.bits, IntKind.signed] <;> omega
     refine ⟨k + 1, acc ++ y.1.data.toList, by omega, by first | (rw [hwrap]; done) | (simp only [hwrap]; done) | (simp <;> omega), ?_, hbw1.trans b2, ?_, r', hr', ?_⟩
     ·rw [byteCells_app, ← strCells_bytes]; exact Or.inr h1
     ·have : y.1.data.toList.length = y.1.size := rfl
      rw [List.length_append, this]; omega
     ·simp only [Option.some.injEq] at hrr
      rw [← hac, ← hrr]
      simp
    case measure =>
     simp [intOf]; omega
  ·go_wp2_with (go_at_call 170; refine (Tryz.Builder_String w.heap.size w.heap.size acc _ hI (by omega)).mono ?_)
   rintro e W1 ⟨rfl, _, b1, _⟩
   go_wp2
   go_ret
   have hk' : k = l.length := by omega
   subst hk'
   rw [List.drop_length] at hr
   simp only [intsGo, Option.some.injEq] at hr
   subst hr
   simp only [List.append_nil] at hac
   exact ⟨by rw [hac]; simp, hbw.trans b1⟩
end Go.Proofs
namespace Go.V.G
open Go.Proofs
def f110 (a0 : List Int) : Option (ByteArray × Unit) := bif decide (a0.length ≤ 1000) then (intsGo a0).bind fun r => some (r, ()) else none
def f110_spec : PSpec := { args := [.sl (.int .i64)], res := [.str], fn := fun x => f110 x.1 }
theorem elems_int_get {fz : Nat → Nat → Option Value} : ∀ {l : List Int} {cs : List Value}, Elems (CR fz (.int .i64)) l cs → ∀ j (h : j < l.length), cs[j]? = some (.int .i64 l[j])
 | [], _, _, j, h => by simp at h
 | x :: l, cs, ⟨c1, c2, e, h1, h2⟩, j, h => by
  have h1' : c1 = [.int .i64 x] := h1
  subst h1'
  subst e
  cases j with
  | zero => rfl
  | succ j => simpa using elems_int_get h2 j (by simpa using h)
theorem f110_pure : PureOK Go.Proofs.Tryz.prog cfg 110 f110_spec := by
 intro fz w args x y hG hf ha hy
 obtain ⟨l, u⟩ := x
 obtain ⟨s, u'⟩ := y
 change f110 l = some (s, u') at hy
 unfold f110 at hy
 cases hl : decide (List.length (α := Int) l ≤ 1000) with
 | false => rw [hl] at hy; cases hy
 | true =>
  rw [hl, cond_true, Option.bind_eq_some_iff] at hy
  obtain ⟨s', hs, e⟩ := hy
  simp only [Option.some.injEq, Prod.mk.injEq] at e
  obtain ⟨rfl, _⟩ := e
  obtain ⟨al⟩ := args
  match al, ha with
  | [c], ⟨⟨arr, e1, e2⟩, _⟩ =>
   obtain ⟨v, e3, hv⟩ := e1
   have hc : c = v := by
    rw [e2]
    show arr.getD 0 undef = v
    rw [Array.getD_eq_getD_getElem?, ← Array.getElem?_toList, e3]
    rfl
   subst hc
   have fin : ∀ base cap, c = .slice base (List.length (α := Int) l) cap → (∀ j (_ : j < List.length (α := Int) l), ∃ blk off, base = some ⟨blk, off, none⟩ ∧ blk < w.heap.size ∧ w.cell? ⟨blk, off + j, none⟩ = some (.int .i64 (l[j] : Int))) →
     Calls Go.Proofs.Tryz.prog 110 #[c] w fun e w' => ∃ cs fz', e = .returned (resVal cs) ∧ TVs fz' [.str] (s', u') cs ∧ FzOK (.of fz') w' ∧ Tr (.of fz) w (.of fz') w' := by
    intro base cap hc hb
    subst hc
    refine Calls.mono (ints_walk hG l base cap w hf (of_decide_eq_true hl) s' hs hb) ?_
    rintro e w' ⟨rfl, hb⟩
    refine ⟨[.string s'], fz, rfl, ⟨⟨#[.string s'], rfl, rfl⟩, rfl⟩, ?_, ⟨hb.os, hb.tape, hb.output, hb.size, fun _ _ _ h => h, fun _ _ h => .inl h, fun _ h => .inl h, fun b hb' _ => hb.block b hb'⟩⟩
    intro b o v e
    have := hf b o v e
    rw [← this]
    have hlt : b < w.heap.size := by
     unfold World.cell? at this
     cases hh : w.heap[b]? with
     | none => simp [hh] at this
     | some x => exact (Array.getElem?_eq_some_iff.1 hh).1
    simp only [World.cell?, hb.block b hlt]
   rcases hv with ⟨rfl, rfl⟩ | ⟨blk, off, cap, cs, rfl, h1, h2, h3⟩
   ·exact fin none 0 rfl (fun j h => by simp at h)
   ·refine fin _ cap rfl (fun j h => ⟨blk, off, rfl, ?_, hf _ _ _ (h3 j _ (elems_int_get h2 j h))⟩)
    have := hf _ _ _ (h3 j _ (elems_int_get h2 j h))
    unfold World.cell? at this
    cases hh : w.heap[blk]? with
    | none => simp [hh] at this
    | some x => exact (Array.getElem?_eq_some_iff.1 hh).1
theorem f110_enter : Enterable Go.Proofs.Tryz.prog 110 := enter_fun Go.Proofs.Tryz.func110 (by kernel_rfl)
end Go.V.G
