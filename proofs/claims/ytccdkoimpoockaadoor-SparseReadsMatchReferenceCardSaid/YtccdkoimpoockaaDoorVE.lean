/- Loops over functions: records, marks, rounds. -/
import Derived.Test.YtccdkoimpoockaaDoorVD
import Derived.Sort.LoopGhostIn
set_option linter.all false
set_option linter.unusedVariables false
set_option linter.unusedSectionVars false
set_option linter.unusedSimpArgs false
namespace Go.V
variable [Codes]
section
variable {P : Program} {E : Env0}

theorem VsR.grow' {g g' : Gh} (hx : ExtBut none g g') : ∀ {l : List AV} {cs : List Value}, VsR g l cs → VsR g' l cs
  | [], [], h => h
  | [], _ :: _, h => h.elim
  | _ :: _, [], h => h.elim
  | _ :: _, _ :: _, ⟨h1, h2⟩ => ⟨h1.grow hx, h2.grow' hx⟩

/-- The marks that loops over functions leave. -/
structure Mk (N : Nat) (g : Gh) (w : World) (ds : List Deferred) : Prop where
  mem : ∀ d ∈ ds, ∃ r, d = { target := .collected r, args := #[] } ∧ N ≤ r ∧ w.heap[r]? = some (.deferred (some [])) ∧ ¬ owned g r
  apart : ds.Pairwise (fun a b => ∀ r, a.target = .collected r → b.target = .collected r → False)

theorem Mk.nil {N : Nat} {g : Gh} {w : World} : Mk N g w [] := ⟨(fun _ h => nomatch h), .nil⟩

theorem Mk.tr {N : Nat} {g g' : Gh} {w w' : World} {ds : List Deferred} (h : Mk N g w ds) (t : Tr g w g' w') : Mk N g' w' ds := by
  refine ⟨fun d hd => ?_, h.apart⟩
  obtain ⟨r, e1, e2, e3, e4⟩ := h.mem d hd
  have hlt := (Array.getElem?_eq_some_iff.1 e3).1
  refine ⟨r, e1, e2, (t.block r hlt e4).trans e3, fun ho => ?_⟩
  rcases t.own r ho with h | h
  · exact e4 h
  · omega

theorem Mk.low {N M : Nat} {g : Gh} {w : World} {ds : List Deferred} (h : Mk N g w ds) (hm : M ≤ N) : Mk M g w ds :=
  ⟨fun d hd => by obtain ⟨r, e1, e2, e3⟩ := h.mem d hd; exact ⟨r, e1, by omega, e3⟩, h.apart⟩

/-- A block that no box has, and that is no cells', turns. -/
theorem StR.putOther {g : Gh} {s : St} {tm : Array Value} {tms : List (Array Value)} {w : World} (h : StR g s tm tms w) {r : Nat} {x : Option (List Deferred)} (hr : w.heap[r]? = some (.deferred x)) (hno : ¬ owned g r) (o : Obj) :
    StR g s tm tms (w.putObj r o) := by
  have hw : ∀ b, b ≠ r → (w.putObj r o).heap[b]? = w.heap[b]? := fun b hb => World.putObj_heap_other hb
  refine ⟨h.env, h.stk, ⟨fun k b e => ?_, h.bxs.dom, h.bxs.sep⟩, fun b o' v e => ?_⟩
  · obtain ⟨gb, h1, h2⟩ := h.bxs.box k b e
    exact ⟨gb, h1, h2.ext (ExtBut.refl g) (fun blk e1 e2 => hw blk (fun e => hno ⟨k, gb, h1, by rw [← e]; exact e1, e2⟩)) (fun _ _ _ _ h => h) (boxClear_none _)⟩
  · have h1 := h.fz b o' v e
    have hb : b ≠ r := by
      intro e
      subst e
      simp [World.cell?, hr] at h1
    rw [← h1]
    exact World.cell?_of_block (a := ⟨b, o', none⟩) (hw b hb)

theorem Tr.putOther {g0 g : Gh} {w0 w : World} (t : Tr g0 w0 g w) {r : Nat} (hr : w0.heap.size ≤ r) (o : Obj) : Tr g0 w0 g (w.putObj r o) :=
  ⟨t.os, t.tape, t.output, by have := t.size; simp only [World.putObj, Array.size_setIfInBounds]; exact this, t.fz, t.fzNew, t.own, fun b hb ho => (World.putObj_heap_other (by omega)).trans (t.block b hb ho)⟩

/-- A function leaves with the marks of its loops over functions. -/
theorem leavesM {fn : Func} {g0 : Gh} {w0 : World} {g : Gh} {s : St} {tm : Array Value} {tms : List (Array Value)} {R : Ending → World → Prop}
    (hR : ∀ w, StR g s tm tms w → Tr g0 w0 g w → ∃ v, (results fn tm).run P w = .ok v w ∧ R (.returned v) w) :
    ∀ (ds : List Deferred) (w : World), StR g s tm tms w → Tr g0 w0 g w → Mk w0.heap.size g w ds → LeavesInM Fence.wide 0 P fn tm R ds .returning w
  | [], w, hs, ht, _ => hR w hs ht
  | d :: ds, w, hs, ht, hm => by
    obtain ⟨r, rfl, e2, e3, e4⟩ := hm.mem d (by simp)
    refine ⟨(fun h => nomatch h), .inl ⟨r, _, rfl, run_takeDeferred e3, ?_⟩⟩
    have ap := List.pairwise_cons.1 hm.apart
    refine leavesM hR ds _ (hs.putOther e3 e4 _) (ht.putOther e2 _) ⟨fun d' hd' => ?_, ap.2⟩
    obtain ⟨r', rfl, k2, k3, k4⟩ := hm.mem d' (by simp [hd'])
    have hne : r' ≠ r := fun e => ap.1 _ hd' r rfl (by rw [e])
    exact ⟨r', rfl, k2, (World.putObj_heap_other hne).trans k3, k4⟩

/-- The slots of a loop's variables, filled. -/
theorem putL_ok {g : Gh} : ∀ {ps : List Nat} {args : List AV} {vals : List Value} {env : Env} {tm : Array Value}, VsR g args vals → EnvR g env tm → ps.length = args.length → (∀ p ∈ ps, p < tm.size) →
    EnvR g (putL ps args env) ((ps.zip vals).foldl (fun t x => t.setIfInBounds x.1 x.2) tm) ∧ ((ps.zip vals).foldl (fun t x => t.setIfInBounds x.1 x.2) tm).size = tm.size
  | [], [], vals, env, tm, _, he, _, _ => ⟨by simpa [putL] using he, by simp⟩
  | [], _ :: _, _, _, _, _, _, h, _ => by simp at h
  | _ :: _, [], _, _, _, _, _, h, _ => by simp at h
  | p :: ps, v :: args, [], _, _, h, _, _, _ => h.elim
  | p :: ps, v :: args, c :: vals, env, tm, ⟨h1, h2⟩, he, hl, hp => by
    simp only [putL, List.zip_cons_cons, List.foldl_cons]
    have he' : EnvR g ((p, v) :: env) (tm.setIfInBounds p c) := by
      intro n u e
      by_cases hn : p = n
      · subst hn
        rw [find_cons_same] at e
        cases e
        have : (tm.setIfInBounds p c).getD p undef = c := by
          rw [Array.getD_eq_getD_getElem?, Array.getElem?_setIfInBounds_self_of_lt (hp p (by simp))]; rfl
        rw [this]
        exact h1
      · rw [find_cons_other _ _ hn] at e
        have : (tm.setIfInBounds p c).getD n undef = tm.getD n undef := by
          rw [Array.getD_eq_getD_getElem?, Array.getD_eq_getD_getElem?, Array.getElem?_setIfInBounds_ne hn]
        rw [this]
        exact he n u e
    have := putL_ok (env := (p, v) :: env) (tm := tm.setIfInBounds p c) h2 he' (by simpa using hl) (fun q hq => by rw [Array.size_setIfInBounds]; exact hp q (by simp [hq]))
    exact ⟨this.1, by rw [this.2, Array.size_setIfInBounds]⟩

theorem zip_foldl (ps : List Nat) (vals : Array Value) (tm : Array Value) :
    (ps.toArray.zip vals).foldl (fun t (x : Nat × Value) => t.setIfInBounds x.1 x.2) tm = (ps.zip vals.toList).foldl (fun t x => t.setIfInBounds x.1 x.2) tm := by
  rw [← Array.foldl_toList, Array.toList_zip]

theorem rangesOf_n {nt : Nat} : ∀ {c : Code} {x : Nat × LCode}, x ∈ rangesOf nt c → x.2.n = nt := by
  intro c
  induction c with
  | seq a b iha ihb => intro x h; simp only [rangesOf, List.mem_append] at h; exact h.elim iha ihb
  | cond q a b iha ihb => intro x h; simp only [rangesOf, List.mem_append] at h; exact h.elim iha ihb
  | block id c ih => intro x h; exact ih h
  | loop c ih => intro x h; exact ih h
  | rangeFunc q ps a b iha ihb => intro x h; simp only [rangesOf, List.mem_singleton] at h; subst h; rfl
  | _ => intro x h; simp [rangesOf] at h

theorem rangesOf_dsts {nt : Nat} : ∀ {c : Code} {x : Nat × LCode}, dstsOk nt c = true → x ∈ rangesOf nt c → (∀ p ∈ x.2.ps, p < nt) ∧ dstsOk nt x.2.assign = true ∧ dstsOk nt x.2.body = true := by
  intro c
  induction c with
  | seq a b iha ihb => intro x hd h; simp only [rangesOf, List.mem_append] at h; simp only [dstsOk, Bool.and_eq_true] at hd; exact h.elim (iha hd.1) (ihb hd.2)
  | cond q a b iha ihb => intro x hd h; simp only [rangesOf, List.mem_append] at h; simp only [dstsOk, Bool.and_eq_true] at hd; exact h.elim (iha hd.1) (ihb hd.2)
  | block id c ih => intro x hd h; exact ih hd h
  | loop c ih => intro x hd h; exact ih hd h
  | rangeFunc q ps a b iha ihb =>
    intro x hd h
    simp only [rangesOf, List.mem_singleton] at h
    subst h
    simp only [dstsOk, Bool.and_eq_true, List.all_eq_true] at hd
    exact ⟨fun p hp => Nat.le_of_ble_eq_true (hd.1 p hp), hd.2.1, hd.2.2⟩
  | _ => intro x _ h; simp [rangesOf] at h

theorem rangesOf_draws {nt : Nat} : ∀ {c : Code} {x : Nat × LCode}, drawsOk c = true → x ∈ rangesOf nt c → drawsOk x.2.assign = true ∧ drawsOk x.2.body = true := by
  intro c
  induction c with
  | seq a b iha ihb => intro x hd h; simp only [rangesOf, List.mem_append] at h; simp only [drawsOk, Bool.and_eq_true] at hd; exact h.elim (iha hd.1) (ihb hd.2)
  | cond q a b iha ihb => intro x hd h; simp only [rangesOf, List.mem_append] at h; simp only [drawsOk, Bool.and_eq_true] at hd; exact h.elim (iha hd.1) (ihb hd.2)
  | block id c ih => intro x hd h; exact ih hd h
  | loop c ih => intro x hd h; exact ih hd h
  | rangeFunc q ps a b iha ihb =>
    intro x hd h
    simp only [rangesOf, List.mem_singleton] at h
    subst h
    simp only [drawsOk, Bool.and_eq_true] at hd
    exact hd
  | _ => intro x _ h; simp [rangesOf] at h

theorem rangesOf_loops {nt : Nat} : ∀ {c : Code} {x : Nat × LCode}, x ∈ rangesOf nt c → (∀ b ∈ loopsOf x.2.assign, b ∈ loopsOf c) ∧ (∀ b ∈ loopsOf x.2.body, b ∈ loopsOf c) := by
  intro c
  induction c with
  | seq a b iha ihb =>
    intro x h
    simp only [rangesOf, List.mem_append] at h
    simp only [loopsOf, List.mem_append]
    rcases h with h | h
    · exact ⟨fun b hb => .inl ((iha h).1 b hb), fun b hb => .inl ((iha h).2 b hb)⟩
    · exact ⟨fun b hb => .inr ((ihb h).1 b hb), fun b hb => .inr ((ihb h).2 b hb)⟩
  | cond q a b iha ihb =>
    intro x h
    simp only [rangesOf, List.mem_append] at h
    simp only [loopsOf, List.mem_append]
    rcases h with h | h
    · exact ⟨fun b hb => .inl ((iha h).1 b hb), fun b hb => .inl ((iha h).2 b hb)⟩
    · exact ⟨fun b hb => .inr ((ihb h).1 b hb), fun b hb => .inr ((ihb h).2 b hb)⟩
  | block id c ih => intro x h; exact ih h
  | loop c ih => intro x h; simp only [loopsOf, List.mem_cons]; exact ⟨fun b hb => .inr ((ih h).1 b hb), fun b hb => .inr ((ih h).2 b hb)⟩
  | rangeFunc q ps a b iha ihb =>
    intro x h
    simp only [rangesOf, List.mem_singleton] at h
    subst h
    simp only [loopsOf, List.mem_append]
    exact ⟨fun b hb => .inl hb, fun b hb => .inr hb⟩
  | _ => intro x h; simp [rangesOf] at h

theorem find_mem {α : Type} : ∀ {l : List (Nat × α)} {k : Nat} {v : α}, find l k = some v → (k, v) ∈ l
  | [], _, _, h => nomatch h
  | (j, u) :: l, k, v, h => by
    by_cases hj : j = k
    · subst hj; rw [find_cons_same] at h; cases h; simp
    · rw [find_cons_other _ _ hj] at h; simp [find_mem h]

theorem mem_find {α : Type} : ∀ {l : List (Nat × α)} {k : Nat} {v : α}, idsOk (l.map (·.1)) = true → (k, v) ∈ l → find l k = some v
  | [], _, _, _, h => nomatch h
  | (j, u) :: l, k, v, hi, h => by
    simp only [List.map_cons, idsOk, Bool.and_eq_true, Bool.not_eq_true'] at hi
    rcases List.mem_cons.1 h with e | h
    · cases e; rw [find_cons_same]
    · have hj : j ≠ k := by
        intro e
        subst e
        have : (l.map (·.1)).contains j = true := List.contains_iff_mem.2 (List.mem_map.2 ⟨(j, v), h, rfl⟩)
        rw [this] at hi
        cases hi.1
      rw [find_cons_other _ _ hj]
      exact mem_find hi.2 h

theorem isYld_ok {env : Env} {b : Nat} (h : isYld env b = true) : find env 0 = some (.yld b) := by
  unfold isYld at h
  split at h
  · rename_i c hc; rw [hc, Nat.eq_of_beq_eq_true h]
  · cases h

theorem yld_blk {g : Gh} {b l : Nat} {c : Value} (h : VR g (.yld b) c) (he : c = .func (.yield l) #[] #[]) : ∃ gb, g.bx b = some gb ∧ gb.isRow = false ∧ gb.blk = some l := by
  obtain ⟨gb, l', e1, e2, e3, e4⟩ := h
  rw [he] at e4
  simp only [List.cons.injEq, and_true, Value.func.injEq, Fn.yield.injEq] at e4
  subst e4
  exact ⟨gb, e1, e2, e3⟩
end
end Go.V
namespace Go.V
variable [Codes]
section
variable {P : Program} {E : Env0}

def Ex.to : Ex → Exit
  | .normal => .normal
  | .exit id => .exit id
  | .ret => .ret

theorem findL_same {α : Type} : ∀ {l : List (Key × α)} {k : Key} {v : α}, findL l k = some v → ∃ j, (j, v) ∈ l ∧ j.beq k = true
  | [], _, _, h => nomatch h
  | (j, u) :: l, k, v, h => by
    simp only [findL] at h
    cases hb : j.beq k
    · rw [hb] at h
      obtain ⟨i, h1, h2⟩ := findL_same (l := l) h
      exact ⟨i, by simp [h1], h2⟩
    · rw [hb] at h
      simp only [cond_true, Option.some.injEq] at h
      subst h
      exact ⟨j, by simp, hb⟩

theorem dstsOk_mono {n m : Nat} (h : n ≤ m) : ∀ {c : Code}, dstsOk n c = true → dstsOk m c = true := by
  have one : ∀ o : Oper, dstOk n o = true → dstOk m o = true := by
    intro o ho
    unfold dstOk at ho ⊢
    split
    · rename_i d hd
      rw [hd] at ho
      have : d < n := Nat.le_of_ble_eq_true ho
      exact Nat.ble_eq_true_of_le (Nat.le_trans this h)
    · rfl
  intro c
  induction c with
  | region id ops dr =>
    intro hc
    simp only [dstsOk, List.all_eq_true] at hc ⊢
    exact fun o ho => one o (hc o ho)
  | seq a b iha ihb => intro hc; simp only [dstsOk, Bool.and_eq_true] at hc ⊢; exact ⟨iha hc.1, ihb hc.2⟩
  | cond x a b iha ihb => intro hc; simp only [dstsOk, Bool.and_eq_true] at hc ⊢; exact ⟨iha hc.1, ihb hc.2⟩
  | block id c ih => exact fun hc => ih hc
  | loop c ih => exact fun hc => ih hc
  | rangeFunc q ps a b iha ihb =>
    intro hc
    simp only [dstsOk, Bool.and_eq_true, List.all_eq_true] at hc ⊢
    exact ⟨fun p hp => Nat.ble_eq_true_of_le (Nat.le_trans (Nat.le_of_ble_eq_true (hc.1 p hp)) h), iha hc.2.1, ihb hc.2.2⟩
  | _ => intro _; rfl

/-- What is known where code ends. -/
abbrev Post {R : Type} (Q : Exit → Act → World → Prop) (K : Ex → St → Option R) (r : R) (N : Nat) (g : Gh) (tms : List (Array Value)) (w : World) (n : Nat) : Prop :=
  ∀ (e : Ex) (s' : St) (tm' : Array Value) (g' : Gh) (w' : World) (ds' : List Deferred), K e s' = some r → StR g' s' tm' tms w' → Tr g w g' w' → tm'.size = n → Mk N g' w' ds' → Q e.to ⟨tm', ds'⟩ w'

/-- What is left of a loop over a function behind it. -/
theorem rangeEnd_ok {F : Fence} {M N n l0 key : Nat} {R : Type} {K : Ex → St → Option R} {r : R} {g g1 : Gh} {tm : Array Value} {tms : List (Array Value)} {w W1 : World} {Q : Exit → Act → World → Prop} {ds1 : List Deferred}
    {s' : St} {g' : Gh} {w' : World}
    (hk : (match s'.stk, find s'.bxs key with
      | env :: stk, some (.loop false _ _ _) => bif isYld s'.env key then K .normal { env := env, stk := stk, bxs := setB s'.bxs key .dead } else none
      | _, _ => none) = some r)
    (hs' : StR g' s' #[.func (.yield l0) #[] #[]] (tm :: tms) w') (t1 : Tr g w g1 W1) (t2 : Tr g1 W1 g' w') (hn : tm.size = n) (hm1 : Mk N g1 W1 ds1) (hQ : Post Q K r N g tms w n) :
    ∃ jump w4, (Instr.endLoop l0).run P w' = .ok jump w4 ∧ (match jump with | none => Q .normal ⟨tm, ds1⟩ w4 | some c => c.wpIn F M P Q ⟨tm, ds1⟩ w4) := by
  split at hk
  · rename_i env stk f1 i1 env1 hst hbx
    cases hy : isYld s'.env key with
    | false => rw [hy] at hk; cases hk
    | true =>
      rw [hy, cond_true] at hk
      have hv := hs'.env 0 _ (isYld_ok hy)
      obtain ⟨gb1, q1, q2, q3⟩ := yld_blk hv rfl
      obtain ⟨gb2, p1, p2⟩ := hs'.bxs.box _ _ hbx
      rw [q1] at p1
      cases p1
      obtain ⟨p3, p4, l, tm2, D, fn2, cd2, p5, p6, p7, p8, p9, p10⟩ := p2
      rw [q3] at p5
      cases p5
      obtain ⟨w3, hw3⟩ : ∃ w3, w'.putObj l0 (.loop { state := .exhausted, pending := none, fn := fn2, tmps := tm2, params := cd2.ps.toArray, assign := cd2.assign, body := cd2.body, defers := D }) = w3 := ⟨_, rfl⟩
      have hlt := (Array.getElem?_eq_some_iff.1 p7).1
      obtain ⟨hs3, t3⟩ := hs'.upd q1 q3 p4 p10 (w' := w3) (by rw [← hw3]; rfl) (by rw [← hw3]; rfl) (by rw [← hw3]; rfl) (by rw [← hw3]; simp [World.putObj]) (fun b hb _ => by rw [← hw3]; exact World.putObj_heap_other hb) .dead
        ⟨p3, p4, _, _, q3, by rw [← hw3]; exact World.putObj_heap_same hlt, p10⟩
      refine ⟨none, w3, ?_, ?_⟩
      · rw [← hw3]; exact run_endLoop p7 (by simp)
      · have hstk := hs3.stk
        simp only [Eff.apply, hst] at hstk
        exact hQ .normal _ tm g' w3 _ hk ⟨hstk.1, hstk.2, hs3.bxs, hs3.fz⟩ (t1.trans (t2.trans t3)) hn ((hm1.tr t2).tr t3)
  · cases hk

theorem range_ok (hE : EnvOK P E) {F : Fence} (hW : Wide F) {M N nt : Nat} {d f base n : Nat} (hI : ∀ R : Type, InlOK (R := R) P E (inlineC E d)) (hnt : nt ≤ n) {q : Operand} {ps : Array Tmp} {a b : Code} (hround : F.round = none) (hcd : Codes.cd f (rid a b) = some ⟨ps.toList, a, b, nt⟩)
    {R : Type} {K : Ex → St → Option R} {r : R} {g : Gh} {s : St} {tm : Array Value} {tms : List (Array Value)} {w : World} {Q : Exit → Act → World → Prop} {ds : List Deferred}
    (h : runC E (inlineC E d) d f base (.rangeFunc q ps a b) s K = some r) (hs : StR g s tm tms w) (hG : GlobOK E.C g.fz) (hn : tm.size = n) (hm : Mk N g w ds) (hN : N ≤ w.heap.size)
    (hQ : Post Q K r N g tms w n) : (Code.rangeFunc q ps a b).wpIn F M P Q ⟨tm, ds⟩ w := by
  simp only [runC] at h
  split at h
  · rename_i f' caps hq
    obtain ⟨cv, hcv, hcaps⟩ := ev_ok hs hG hq ds
    simp only [List.cons.injEq, and_true] at hcv
    split at h
    · rename_i hfree
      obtain ⟨hent, hcall⟩ := (hI R).fn _ _ _ _ _ _ h
      refine wpIn_rangeFunc ?_
      intro fn hfn
      rw [hround]
      obtain ⟨rec, hrec⟩ : ∃ rec : LoopState → Loop, rec = fun st => { state := st, pending := none, fn, tmps := tm, params := ps, assign := a, body := b, defers := w.heap.size } := ⟨_, rfl⟩
      obtain ⟨W1, hW1⟩ : ∃ W1, (w.alloc (.deferred (some []))).alloc (.loop (rec .ready)) = W1 := ⟨_, rfl⟩
      have hL1 : W1.heap[w.heap.size + 1]? = some (.loop (rec .ready)) := by
        rw [← hW1]; have := World.alloc_heap_new (w.alloc (.deferred (some []))) (.loop (rec .ready)); rwa [World.size_alloc] at this
      have hK1 : W1.heap[w.heap.size]? = some (.deferred (some [])) := by
        rw [← hW1]; exact ((World.grownBy_alloc (w.alloc (.deferred (some []))) (.loop (rec .ready)) none).block _ (by simp) (by simp)).trans (World.alloc_heap_new w _)
      have hgrow : w.grownBy W1 none := by
        rw [← hW1]
        have h1 := World.grownBy_alloc w (.deferred (some [])) none
        have h2 := World.grownBy_alloc (w.alloc (.deferred (some []))) (.loop (rec .ready)) none
        exact ⟨h2.os.trans h1.os, h2.tape.trans h1.tape, h2.output.trans h1.output, Nat.le_trans h1.size h2.size, fun k hk hne => (h2.block k (Nat.lt_of_lt_of_le hk h1.size) hne).trans (h1.block k hk hne)⟩
      obtain ⟨key, hkey⟩ : ∃ key, key = loopKey base a b := ⟨_, rfl⟩
      rw [← hkey] at h hfree hcall
      obtain ⟨gb, hgb⟩ : ∃ gb : Gb, gb = ⟨false, true, some (w.heap.size + 1), 0, 0, 0, 0⟩ := ⟨_, rfl⟩
      have hnf : ∀ o, g.fz (w.heap.size + 1) o = none := fun o => by
        cases e : g.fz (w.heap.size + 1) o with
        | none => rfl
        | some v => have := hs.fz.lt (b := w.heap.size + 1) (o := o) (by rw [e]; simp); omega
      have hx0 := ext_put gb (hs.bxs.none hfree)
      have hbox : BoxR (g.put key gb) (.loop false f (rid a b) s.env) gb W1 := by
        refine ⟨by rw [hgb], by rw [hgb], w.heap.size + 1, tm, w.heap.size, fn, ⟨ps.toList, a, b, nt⟩, by rw [hgb], hcd, ?_, hs.env.grow hx0, (by show nt ≤ tm.size; omega), hnf⟩
        rw [hL1, hrec]
        simp
      obtain ⟨hs1, t1, hx1⟩ := hs.add hfree hgrow _ gb hbox (fun blk e1 _ => by rw [hgb] at e1; cases e1; omega)
      have hyld : VR (g.put key gb) (.yld key) (.func (.yield (w.heap.size + 1)) #[] #[]) := ⟨gb, w.heap.size + 1, Gh.put_same _ _ _, by rw [hgb], by rw [hgb], rfl⟩
      have hs2 : StR (g.put key gb) { env := [(0, .yld key)], stk := s.env :: s.stk, bxs := (key, .loop false f (rid a b) s.env) :: s.bxs } #[.func (.yield (w.heap.size + 1)) #[] #[]] (tm :: tms) W1 := by
        refine ⟨fun n v e => ?_, ⟨hs1.env, hs1.stk⟩, hs1.bxs, hs1.fz⟩
        by_cases hn0 : 0 = n
        · subst hn0
          rw [find_cons_same] at e
          cases e
          exact hyld
        · rw [find_cons_other _ _ hn0] at e; cases e
      have hm1 : Mk N (g.put key gb) W1 ({ target := .collected w.heap.size, args := #[] } :: ds) := by
        have hm0 := hm.tr t1
        refine ⟨fun d hd => ?_, List.pairwise_cons.2 ⟨fun d hd r e1 e2 => ?_, hm0.apart⟩⟩
        · rcases List.mem_cons.1 hd with rfl | hd
          · refine ⟨w.heap.size, rfl, hN, hK1, ?_⟩
            rintro ⟨k, gb', e1, e2, e3⟩
            by_cases hk : k = key
            · subst hk
              rw [Gh.put_same] at e1
              cases e1
              rw [hgb] at e2
              simp at e2
            · rw [Gh.put_other _ _ hk] at e1
              have := hs.bxs.lt ⟨k, gb', e1, e2, e3⟩
              omega
          · exact hm0.mem d hd
        · simp only [Target.collected.injEq] at e1
          subst e1
          obtain ⟨r', rfl, _, e4, _⟩ := hm.mem d hd
          simp only [Target.collected.injEq] at e2
          subst e2
          have := (Array.getElem?_eq_some_iff.1 e4).1
          omega
      refine ⟨w.heap.size + 1, [{ target := .collected w.heap.size, args := #[] }], W1, { target := .fn (.func f') cv, args := #[.func (.yield (w.heap.size + 1)) #[] #[]] }, W1, f',
        #[.func (.yield (w.heap.size + 1)) #[] #[]] ++ cv, W1, ?_, ?_, fun f2 _ => hW.fn f2, ?_, hW.deep M, ?_⟩
      · rw [← hW1, hrec]; exact run_enterLoop_outer _ _ _ _ _
      · simp only [resolve, hcv]
        simp [go_sem]
      · simp only [invoke]
        exact run_callFunc hent _ _
      · have hvs : VsR (g.put key gb) (.yld key :: caps) ((#[Value.func (.yield (w.heap.size + 1)) #[] #[]] : Array Value) ++ cv).toList := by
          rw [Array.toList_append]
          exact ⟨hyld, (hcaps.vsR).grow' hx1⟩
        have hc := hcall (g.put key gb) #[.func (.yield (w.heap.size + 1)) #[] #[]] (tm :: tms) W1 (#[.func (.yield (w.heap.size + 1)) #[] #[]] ++ cv) hs2 (hG.mono t1.fz) hvs
        refine hW.calls.2 (Calls.mono hc ?_)
        rintro e w' ⟨v, av, s', g', rfl, hk, _, hs', t2⟩
        exact rangeEnd_ok hk hs' t1 t2 hn hm1 hQ
    · cases h
  · cases h

theorem runC_ok (hE : EnvOK P E) {F : Fence} (hW : Wide F) {M N nt : Nat} {d f base n : Nat} (hI : ∀ R : Type, InlOK (R := R) P E (inlineC E d)) (hnt : nt ≤ n) : ∀ (c : Code), dstsOk n c = true → drawsOk c = true →
    (∀ b ∈ loopsOf c, ∀ l, findL E.L ⟨d, base, f, firstRegion b⟩ = some l → LoopOK E d f base b l) → (F.round = none ∨ noRange c = true) → (∀ x ∈ rangesOf nt c, Codes.cd f x.1 = some x.2) →
    ∀ {R : Type} {K : Ex → St → Option R} {r : R} {g : Gh} {s : St} {tm : Array Value} {tms : List (Array Value)} {w : World} {Q : Exit → Act → World → Prop} {ds : List Deferred},
      runC E (inlineC E d) d f base c s K = some r → StR g s tm tms w → GlobOK E.C g.fz → tm.size = n → Mk N g w ds → N ≤ w.heap.size →
      Post Q K r N g tms w n → c.wpIn F M P Q ⟨tm, ds⟩ w := by
  intro c
  induction c with
  | skip => intro _ _ _ _ _ R K r g s tm tms w Q ds h hs hG hn hm hN hQ; exact wpIn_skip (hQ .normal s tm g w ds h hs (Tr.refl _ _) hn hm)
  | region id ops dr =>
    intro hd hw _ _ _ R K r g s tm tms w Q ds h hs hG hn hm hN hQ
    cases dr with
    | true =>
      simp only [runC, cond_true] at h
      simp only [drawsOk, Bool.not_true, Bool.false_or] at hw
      exact region_ok hE hW (hI R) hE.mixed hw hd h hs hG hn (fun s' tm' g' w' a b c d => hQ .normal s' tm' g' w' ds a b c d (hm.tr c))
    | false =>
      simp only [runC, cond_false] at h
      refine wpIn_region ?_
      have := runOps_ok hE hW (hI R) (N := M) (ds := ds) (n := n) (Q := Q) (K := fun s => K .normal s) ops.toList 0 rfl hd h hs hG hn (fun s' tm' g' w' a b c d => hQ .normal s' tm' g' w' ds a b c d (hm.tr c))
      rw [Array.length_toList] at this
      rw [List.range_eq_range']
      exact this
  | seq a b iha ihb =>
    intro hd hw hl hro hcd R K r g s tm tms w Q ds h hs hG hn hm hN hQ
    simp only [dstsOk, Bool.and_eq_true] at hd
    simp only [drawsOk, Bool.and_eq_true] at hw
    simp only [runC] at h
    simp only [noRange, Bool.and_eq_true] at hro
    refine wpIn_seq (iha hd.1 hw.1 (fun b' hb' => hl b' (by simp [loopsOf, hb'])) (hro.imp id (·.1)) (fun x hx => hcd x (by simp [rangesOf, hx])) h hs hG hn hm hN ?_)
    intro e s' tm' g' w' ds' hk hs' ht hn' hm'
    cases e with
    | normal => exact ihb hd.2 hw.2 (fun b' hb' => hl b' (by simp [loopsOf, hb'])) (hro.imp id (·.2)) (fun x hx => hcd x (by simp [rangesOf, hx])) hk hs' (hG.mono ht.fz) hn' hm' (Nat.le_trans hN ht.size) (fun e s2 tm2 g2 w2 ds2 a b c d m => hQ e s2 tm2 g2 w2 ds2 a b (ht.trans c) d m)
    | exit id => exact hQ (.exit id) s' tm' g' w' ds' hk hs' ht hn' hm'
    | ret => exact hQ .ret s' tm' g' w' ds' hk hs' ht hn' hm'
  | cond x a b iha ihb =>
    intro hd hw hl hro hcd R K r g s tm tms w Q ds h hs hG hn hm hN hQ
    simp only [dstsOk, Bool.and_eq_true] at hd
    simp only [drawsOk, Bool.and_eq_true] at hw
    simp only [noRange, Bool.and_eq_true] at hro
    simp only [runC] at h
    split at h
    · rename_i t hx
      have hcv : [Act.eval ⟨tm, ds⟩ x] = [Value.bool t] := ev_ok hs hG hx ds
      simp only [List.cons.injEq, and_true] at hcv
      cases t
      · exact wpIn_cond_false hcv (ihb hd.2 hw.2 (fun b' hb' => hl b' (by simp [loopsOf, hb'])) (hro.imp id (·.2)) (fun x hx => hcd x (by simp [rangesOf, hx])) h hs hG hn hm hN hQ)
      · exact wpIn_cond_true hcv (iha hd.1 hw.1 (fun b' hb' => hl b' (by simp [loopsOf, hb'])) (hro.imp id (·.1)) (fun x hx => hcd x (by simp [rangesOf, hx])) h hs hG hn hm hN hQ)
    · cases h
  | block id c ih =>
    intro hd hw hl hro hcd R K r g s tm tms w Q ds h hs hG hn hm hN hQ
    simp only [runC] at h
    refine wpIn_block (ih hd hw hl hro hcd h hs hG hn hm hN ?_)
    intro e s' tm' g' w' ds' hk hs' ht hn' hm'
    cases e with
    | normal => exact hQ .normal s' tm' g' w' ds' hk hs' ht hn' hm'
    | ret => exact hQ .ret s' tm' g' w' ds' hk hs' ht hn' hm'
    | exit i =>
      simp only [Ex.to, Exit.inBlock]
      by_cases hi : i = id
      · subst hi
        rw [if_pos rfl]
        simp only [Nat.beq_refl, cond_true] at hk
        exact hQ .normal s' tm' g' w' ds' hk hs' ht hn' hm'
      · rw [if_neg hi]
        simp only [beq_false hi, cond_false] at hk
        exact hQ (.exit i) s' tm' g' w' ds' hk hs' ht hn' hm'
  | loop c ih =>
    intro hd hw hl hro hcd R K r g s tm tms w Q ds h hs hG hn hm hN hQ
    simp only [runC] at h
    split at h
    · rename_i l hfl
      obtain ⟨hok, step, h1, h2, h3⟩ := hl c (by simp [loopsOf]) l hfl
      simp only [LSpec.ok, Bool.and_eq_true] at hok
      unfold runLoop at h
      split at h
      · rename_i s1 hth
        obtain ⟨g1, hs1, t1⟩ := thawAll_ok hs hth
        obtain ⟨x, g2, h4, hs2, t2⟩ := dec_ok hok.1 hs1 h
        rw [Option.bind_eq_some_iff] at h4
        obtain ⟨o, ho, hK⟩ := h4
        obtain ⟨k0, hk0⟩ := h1 x o ho
        refine wpIn_loop_ghost (fun k a w1 => ∃ x g1, step k x = some o ∧ StR g1 (l.head.enc x) a.tmps tms w1 ∧ Tr g w g1 w1 ∧ a.tmps.size = n ∧ Mk N g1 w1 a.defers) k0 ⟨x, g2, hk0, hs2, t1.trans t2, hn, hm.tr (t1.trans t2)⟩ ?_
        rintro k ⟨tm1, ds1⟩ w1 ⟨x1, g3, hx1, hs3, t3, hn1, hm1⟩
        simp only at hs3 hn1 hm1
        cases k with
        | zero => rw [h2] at hx1; cases hx1
        | succ k =>
          have hb := h3 k x1 o hx1
          unfold runB at hb
          refine ih hd hw (fun b' hb' => hl b' (by simp [loopsOf, hb'])) hro hcd hb hs3 (hG.mono t3.fz) hn1 hm1 (Nat.le_trans hN t3.size) ?_
          intro e s' tm' g' w' ds' hk hs' ht hn' hm'
          have out : ∀ e : Ex, decOut e s' l.outs = some o → Q e.to ⟨tm', ds'⟩ w' := by
            intro e hk
            obtain ⟨A, y, g4, h5, h6, h7⟩ := decOut_ok hs' hok.2 hk
            rw [h5] at hK
            exact hQ e _ tm' g4 w' ds' hK h6 ((t3.trans ht).trans h7) hn' (hm'.tr h7)
          cases e with
          | normal =>
            obtain ⟨x2, g4, h5, h6, h7⟩ := dec_ok hok.1 hs' hk
            exact ⟨k, Nat.lt_succ_self k, x2, g4, h5, h6, (t3.trans ht).trans h7, hn', hm'.tr h7⟩
          | exit i => exact out (.exit i) hk
          | ret => exact out .ret hk
      · cases h
    · cases h
  | exit id => intro _ _ _ _ _ R K r g s tm tms w Q ds h hs hG hn hm hN hQ; exact wpIn_exit (hQ (.exit id) s tm g w ds h hs (Tr.refl _ _) hn hm)
  | ret => intro _ _ _ _ _ R K r g s tm tms w Q ds h hs hG hn hm hN hQ; exact wpIn_ret (hQ .ret s tm g w ds h hs (Tr.refl _ _) hn hm)
  | rangeFunc q ps a b =>
    intro hd hw hl hro hcd R K r g s tm tms w Q ds h hs hG hn hm hN hQ
    exact range_ok hE hW hI hnt (hro.resolve_right (fun h => nomatch h)) (hcd (rid a b, ⟨ps.toList, a, b, nt⟩) (by simp [rangesOf])) h hs hG hn hm hN hQ
  | scope c => intro _ _ _ _ _ R K r g s tm tms w Q ds h; simp [runC] at h
  | label l => intro _ _ _ _ _ R K r g s tm tms w Q ds h; simp [runC] at h
  | goto l => intro _ _ _ _ _ R K r g s tm tms w Q ds h; simp [runC] at h
  | refuse l => intro _ _ _ _ _ R K r g s tm tms w Q ds h; simp [runC] at h

/-! ### Results -/
def resOne (tm : Array Value) : ResultVar → Sem Value
  | .tmp t => pure (tm.getD t undef)
  | .cell a t => do loadVar t (← asAddr (tm.getD a undef))

theorem results_ok (hC : CfgOK E.C P) {g : Gh} {s : St} {tm : Array Value} {tms : List (Array Value)} {w : World} (hs : StR g s tm tms w) : ∀ {l : List ResultVar} {vs : List AV}, resOf E.C s l = some vs →
    ∃ cs, (l.mapM (resOne tm)).run P w = .ok cs w ∧ VsR g vs cs ∧ vs.all AV.okGs = true
  | [], vs, h => by
    simp only [resOf, Option.some.injEq] at h
    subst h
    exact ⟨[], rfl, trivial, rfl⟩
  | .tmp t :: l, vs, h => by
    simp only [resOf] at h
    split at h
    · rename_i v hv
      cases hk : v.okGs
      · rw [hk] at h; cases h
      · rw [hk] at h
        simp only [cond_true, Option.map_eq_some_iff] at h
        obtain ⟨r, hr, rfl⟩ := h
        obtain ⟨cs, h1, h2, h3⟩ := results_ok hC hs hr
        refine ⟨tm.getD t undef :: cs, ?_, ⟨hs.env t v hv, h2⟩, by simp [hk, h3]⟩
        have h6 : (resOne tm (.tmp t)).run P w = .ok (tm.getD t undef) w := rfl
        rw [List.mapM_cons, Sem.run_bind, h6, Result.andThen_ok, Sem.run_bind, h1]
        rfl
    · cases h
  | .cell a t :: l, vs, h => by
    simp only [resOf] at h
    split at h
    · rename_i p hp
      split at h
      · rename_i c v e hv
        cases hk : v.okGs
        · rw [hk] at h; cases h
        · rw [hk] at h
          simp only [cond_true, Option.map_eq_some_iff] at h
          obtain ⟨r, hr, rfl⟩ := h
          obtain ⟨cs, h1, h2, h3⟩ := results_ok hC hs hr
          obtain ⟨_, y, h4, h5⟩ := loadV_ok hC hs hv (hs.env a p hp)
          refine ⟨y :: cs, ?_, ⟨h5.vr', h2⟩, by simp [hk, h3]⟩
          have h6 : (resOne tm (.cell a t)).run P w = .ok y w := by
            show (do loadVar t (← asAddr (tm.getD a undef)) : Sem Value).run P w = .ok y w
            have hpt : ∃ ad, tm.getD a undef = .pointer (some ad) := by
              refine ptr_form (hs.env a p hp) ?_
              unfold loadV at hv
              split at hv <;> first | rfl | (cases hv)
            obtain ⟨ad, had⟩ := hpt
            rw [had] at h4 ⊢
            have e1 : (Instr.sureAddr (.pointer (some ad))).run P w = .ok ad w := rfl
            have e2 : (asAddr (.pointer (some ad))).run P w = .ok ad w := rfl
            unfold Instr.loadAt at h4
            rw [Sem.run_bind, e1] at h4
            rw [Sem.run_bind, e2]
            exact h4
          rw [List.mapM_cons, Sem.run_bind, h6, Result.andThen_ok, Sem.run_bind, h1]
          rfl
      · cases h
    · cases h

theorem run_results {fn : Func} {tm : Array Value} {w : World} {cs : List Value}
    (h : (fn.results.toList.mapM (resOne tm)).run P w = .ok cs w) : (results fn tm).run P w = .ok (resVal cs) w := by
  have e0 : results fn tm = (do let vs ← fn.results.mapM (resOne tm); pure (if h : vs.size = 1 then vs[0] else .tuple vs)) := rfl
  rw [e0, Array.mapM_eq_mapM_toList, Sem.run_bind, Sem.run_map, h]
  simp only [Result.andThen_ok, Sem.run_pure]
  match cs with
  | [] => rfl
  | [c] => rfl
  | c :: d :: l => simp [resVal]

/-! ### Frames -/
theorem envR_params {g : Gh} {args : List AV} {vals : Array Value} (h : VsR g args vals.toList) (k : Nat) : EnvR g (params 0 args) (vals ++ Array.replicate k undef) := by
  intro n v e
  obtain ⟨i, e1, c, h1, h2⟩ := params_ok h n v e
  have : i = n := by omega
  subst this
  have hlt : i < vals.size := by
    rw [← Array.length_toList]
    exact (List.getElem?_eq_some_iff.1 h1).1
  rw [Array.getD_eq_getD_getElem?, Array.getElem?_append_left hlt, ← Array.getElem?_toList, h1]
  exact h2

theorem enter_of (hE : EnvOK P E) {f : Nat} {fn : Func} (h : find E.F f = some fn) : Enterable P f := by
  obtain ⟨h1, h2⟩ := hE.func f fn h
  unfold funOk at h2
  split at h2
  · rename_i c hc
    simp only [Bool.and_eq_true, Bool.not_eq_true'] at h2
    exact ⟨fn, h1, h2.2, by rw [hc]; rfl⟩
  · cases h2

/-- A function's own checks. -/
theorem funOk_of {fn : Func} {c : Code} (h : funOk fn = true) (hb : fn.body = some c) : dstsOk fn.ntmps c = true ∧ drawsOk c = true ∧ idsOk ((rangesOf fn.ntmps c).map (·.1)) = true := by
  unfold funOk at h
  rw [hb] at h
  simp only [Bool.and_eq_true] at h
  exact ⟨h.1.1.1.1.1, h.1.1.1.1.2, h.1.1.2⟩

theorem codes_of (hE : EnvOK P E) {f : Nat} {fn : Func} {c : Code} (hf : find E.F f = some fn) (hb : fn.body = some c) : ∀ x ∈ rangesOf fn.ntmps c, Codes.cd f x.1 = some x.2 := by
  intro x hx
  rw [hE.codes f fn c hf hb]
  exact mem_find (funOk_of (hE.func f fn hf).2 hb).2.2 hx

/-- One round of a loop over a function. -/
theorem round_ok (hE : EnvOK P E) {d base : Nat} (hI : ∀ R : Type, InlOK (R := R) P E (inlineC E d)) {R : Type} {b f id : Nat} {env : Env} {fn : Func} {c : Code} {cd : LCode} {args : List AV} {s : St} {K : AV → St → Option R} {r : R} {g : Gh} {tm : Array Value} {tms : List (Array Value)} {w : World} {l : Nat}
    (hf : find E.F f = some fn) (hb : fn.body = some c) (hx : (id, cd) ∈ rangesOf fn.ntmps c) (hna : noRange cd.assign = true) (hnb : noRange cd.body = true)
    (h : (runC E (inlineC E d) d f (base * 1000) cd.assign { env := putL cd.ps args env, stk := [(0, .yld b)] :: s.env :: s.stk, bxs := s.bxs } fun e s1 => match e, s1.stk, find s1.bxs b with
      | .normal, e0 :: _, some (.loop false f1 i1 env1) => bif isYld e0 b && (Nat.beq f1 f && Nat.beq i1 id) then
          runC E (inlineC E d) d f (base * 1000) cd.body { s1 with bxs := setB s1.bxs b (.loop true f id env1) } fun e s2 => match e, s2.stk, find s2.bxs b with
            | .normal, e1 :: env0 :: stk, some (.loop true f2 i2 env2) => bif isYld e1 b && (Nat.beq f2 f && Nat.beq i2 id) then K (.val .bool true) { env := env0, stk := stk, bxs := setB s2.bxs b (.loop false f id env2) } else none
            | _, _, _ => none
        else none
      | _, _, _ => none) = some r)
    {tm0 : Array Value} (he : EnvR g (putL cd.ps args env) tm0) (hn0 : fn.ntmps ≤ tm0.size) (hs : StR g s tm tms w) (hG : GlobOK E.C g.fz) (hy0 : VR g (.yld b) (.func (.yield l) #[] #[])) {F : Fence} {n : Nat} (hW : Wide F) (fr : FuncId) :
    RoundIn F n P l fr tm0 cd.assign cd.body w fun e w' => ∃ v av s' g', e = .returned v ∧ K av s' = some r ∧ VR g' av v ∧ StR g' s' tm tms w' ∧ Tr g w g' w' := by
  have hfo := funOk_of (hE.func f fn hf).2 hb
  obtain ⟨d1, d2, d3⟩ := rangesOf_dsts hfo.1 hx
  obtain ⟨w1, w2⟩ := rangesOf_draws hfo.2.1 hx
  obtain ⟨l1, l2⟩ := rangesOf_loops hx
  refine roundIn_of_wpIn (hW.fn fr) ?_
  have hs0 : StR g { env := putL cd.ps args env, stk := [(0, .yld b)] :: s.env :: s.stk, bxs := s.bxs } tm0 (#[.func (.yield l) #[] #[]] :: tm :: tms) w := by
    refine ⟨he, ⟨fun m v e => ?_, hs.env, hs.stk⟩, hs.bxs, hs.fz⟩
    by_cases hm : 0 = m
    · subst hm
      rw [find_cons_same] at e
      cases e
      exact hy0
    · rw [find_cons_other _ _ hm] at e; cases e
  have loops : ∀ cb : Code, (∀ x ∈ loopsOf cb, x ∈ loopsOf c) → ∀ x ∈ loopsOf cb, ∀ l, findL E.L ⟨d, base * 1000, f, firstRegion x⟩ = some l → LoopOK E d f (base * 1000) x l :=
    fun cb hsub x hx l hl => hE.loop d _ f fn c x l hf hb (hsub x hx) hl
  have noRanges : ∀ cb : Code, noRange cb = true → ∀ x ∈ rangesOf fn.ntmps cb, Codes.cd f x.1 = some x.2 := by
    intro cb hcb x hx
    have : ∀ {cb : Code}, noRange cb = true → rangesOf fn.ntmps cb = [] := by
      intro cb
      induction cb with
      | seq a b iha ihb => intro h; simp only [noRange, Bool.and_eq_true] at h; simp only [rangesOf, iha h.1, ihb h.2, List.append_nil]
      | cond q a b iha ihb => intro h; simp only [noRange, Bool.and_eq_true] at h; simp only [rangesOf, iha h.1, ihb h.2, List.append_nil]
      | block id c ih => intro h; exact ih h
      | loop c ih => intro h; exact ih h
      | rangeFunc q ps a b _ _ => intro h; cases h
      | _ => intro _; rfl
    rw [this hcb] at hx
    cases hx
  refine runC_ok hE (hW.inRound l) (N := 0) hI hn0 cd.assign (dstsOk_mono hn0 d2) w1 (loops _ l1) (.inr hna) (noRanges _ hna) h hs0 hG rfl Mk.nil (Nat.zero_le _) ?_
  intro e s1 tm1 g1 w1' ds1 hk hs1 t1 hn1 hm1
  dsimp only at hk
  split at hk
  · rename_i e0 rest f1 i1 env1 hst hbx
    cases hc : (isYld e0 b && (Nat.beq f1 f && Nat.beq i1 id)) with
    | false => rw [hc] at hk; cases hk
    | true =>
      rw [hc, cond_true] at hk
      simp only [Bool.and_eq_true] at hc
      have hf1 := Nat.eq_of_beq_eq_true hc.2.1
      have hi1 := Nat.eq_of_beq_eq_true hc.2.2
      subst hf1 hi1
      have hstk1 := hs1.stk
      rw [hst] at hstk1
      obtain ⟨gb1, q1, q2, q3⟩ := yld_blk (hstk1.1 0 _ (isYld_ok hc.1)) rfl
      obtain ⟨gb1', p1, p2⟩ := hs1.bxs.box _ _ hbx
      rw [q1] at p1
      cases p1
      obtain ⟨p3, p4, l', tmr, D, fnr, cdr, p5, p6, p7, p8, p9, p10⟩ := p2
      rw [q3] at p5
      cases p5
      have hlt := (Array.getElem?_eq_some_iff.1 p7).1
      refine ⟨_, run_beginRound p7 rfl, ?_⟩
      obtain ⟨w2', hw2⟩ : ∃ w2', w1'.putObj l (.loop { state := .busy, pending := none, fn := fnr, tmps := tmr, params := cdr.ps.toArray, assign := cdr.assign, body := cdr.body, defers := D }) = w2' := ⟨_, rfl⟩
      obtain ⟨hs2, t2⟩ := hs1.upd q1 q3 p4 p10 (w' := w2') (by rw [← hw2]; rfl) (by rw [← hw2]; rfl) (by rw [← hw2]; rfl) (by rw [← hw2]; simp [World.putObj]) (fun b hb _ => by rw [← hw2]; exact World.putObj_heap_other hb) (.loop true f1 i1 env1)
        ⟨p3, p4, l, tmr, D, fnr, cdr, q3, p6, by rw [← hw2]; exact World.putObj_heap_same hlt, p8, p9, p10⟩
      have hw2' : w1'.putObj l (.loop { state := .busy, pending := none, fn := fnr, tmps := tmr, params := cdr.ps.toArray, assign := cdr.assign, body := cdr.body, defers := D }) = w2' := hw2
      show cd.body.wpIn (F.inRound l) n P _ ⟨tm1, ds1⟩ (w1'.putObj l (.loop { state := .busy, pending := none, fn := fnr, tmps := tmr, params := cdr.ps.toArray, assign := cdr.assign, body := cdr.body, defers := D }))
      rw [hw2']
      have tt := t1.trans t2
      refine runC_ok hE (hW.inRound l) (N := 0) hI (n := tm1.size) (by rw [hn1]; exact hn0) cd.body (dstsOk_mono (by rw [hn1]; exact hn0) d3) w2 (loops _ l2) (.inr hnb) (noRanges _ hnb) hk hs2 (hG.mono tt.fz) rfl (hm1.tr t2) (Nat.zero_le _) ?_
      intro e s2 tm2 g2 w3 ds2 hk2 hs3 t3 _ _
      dsimp only at hk2
      split at hk2
      · rename_i e1 env0 stk f2 i2 env2 hst2 hbx2
        cases hc2 : (isYld e1 b && (Nat.beq f2 f1 && Nat.beq i2 i1)) with
        | false => rw [hc2] at hk2; cases hk2
        | true =>
          rw [hc2, cond_true] at hk2
          simp only [Bool.and_eq_true] at hc2
          have hf2 := Nat.eq_of_beq_eq_true hc2.2.1
          have hi2 := Nat.eq_of_beq_eq_true hc2.2.2
          subst hf2 hi2
          have hstk2 := hs3.stk
          rw [hst2] at hstk2
          obtain ⟨gb2, r1, r2, r3⟩ := yld_blk (hstk2.1 0 _ (isYld_ok hc2.1)) rfl
          obtain ⟨gb2', u1, u2⟩ := hs3.bxs.box _ _ hbx2
          rw [r1] at u1
          cases u1
          obtain ⟨u3, u4, l'', tmr2, D2, fnr2, cdr2, u5, u6, u7, u8, u9, u10⟩ := u2
          rw [r3] at u5
          cases u5
          have hlt2 := (Array.getElem?_eq_some_iff.1 u7).1
          obtain ⟨w4, hw4⟩ : ∃ w4, w3.putObj l (.loop { state := .ready, pending := none, fn := fnr2, tmps := tmr2, params := cdr2.ps.toArray, assign := cdr2.assign, body := cdr2.body, defers := D2 }) = w4 := ⟨_, rfl⟩
          obtain ⟨hs4, t4⟩ := hs3.upd r1 r3 u4 u10 (w' := w4) (by rw [← hw4]; rfl) (by rw [← hw4]; rfl) (by rw [← hw4]; rfl) (by rw [← hw4]; simp [World.putObj]) (fun b hb _ => by rw [← hw4]; exact World.putObj_heap_other hb) (.loop false f2 i2 env2)
            ⟨u3, u4, l, tmr2, D2, fnr2, cdr2, r3, u6, by rw [← hw4]; exact World.putObj_heap_same hlt2, u8, u9, u10⟩
          refine ⟨.bool true, w4, ?_, _, _, _, g2, rfl, hk2, rfl, ⟨hstk2.2.1, hstk2.2.2, hs4.bxs, hs4.fz⟩, tt.trans (t3.trans t4)⟩
          rw [← hw4]
          exact run_endRound none u7
      · cases hk2
  · cases hk

theorem inlineC_ok (hE : EnvOK P E) : ∀ (d : Nat) (R : Type), InlOK (R := R) P E (inlineC E d)
  | 0, R => ⟨fun base f args s K r h => by simp [inlineC] at h, fun base b args s K r h => by simp [inlineC] at h⟩
  | d + 1, R => by
    refine ⟨fun base f args s K r h => ?_, fun base b args s K r h => ?_⟩
    · simp only [inlineC] at h
      split at h
      · rename_i fn hf
        split at h
        · rename_i c hb
          refine ⟨enter_of hE hf, fun g tm tms w vals hs hG hv => ?_⟩
          obtain ⟨hfn, hfo⟩ := hE.func f fn hf
          have hd := funOk_of hfo hb
          refine callsIn_wide.1 (callsIn_of_wp_marks (n := 0) hfn hb trivial ?_)
          have hs0 : StR g { env := params 0 args, stk := s.env :: s.stk, bxs := s.bxs } (vals ++ Array.replicate (fn.ntmps - vals.size) undef) (tm :: tms) w := ⟨envR_params hv _, ⟨hs.env, hs.stk⟩, hs.bxs, hs.fz⟩
          refine runC_ok hE .base (N := w.heap.size) (nt := fn.ntmps) (n := (vals ++ Array.replicate (fn.ntmps - vals.size) undef).size) (inlineC_ok hE d) (by simp; omega) c (dstsOk_mono (by simp; omega) hd.1) hd.2.1 (fun b hb' l hl => hE.loop d _ f fn c b l hf hb hb' hl) (.inl rfl) (codes_of hE hf hb) h hs0 hG rfl Mk.nil (Nat.le_refl _) ?_
          intro e s' tm' g' w' ds' hk hs' ht _ hm'
          dsimp only at hk
          have fin : (match s'.stk with | env :: stk => (match resOf E.C s' fn.results.toList with | some vs => K (tup1 vs) { env := env, stk := stk, bxs := s'.bxs } | none => none) | [] => none) = some r →
              LeavesInM Fence.wide 0 P fn tm' (fun e w' => ∃ v' av s'' g'', e = .returned v' ∧ K av s'' = some r ∧ VR g'' av v' ∧ StR g'' s'' tm tms w' ∧ Tr g w g'' w') ds' .returning w' := by
            intro hk
            refine leavesM (g0 := g) (w0 := w) (g := g') (s := s') (tms := tm :: tms) (fun w2 hs2 ht2 => ?_) ds' w' hs' ht hm'
            split at hk
            · rename_i env stk hst
              split at hk
              · rename_i vs hvs
                obtain ⟨cs, h1, h2, h3⟩ := results_ok hE.cfg hs2 hvs
                have hstk := hs2.stk
                rw [hst] at hstk
                exact ⟨_, run_results h1, _, _, _, g', rfl, hk, tup1_ok h2 h3, ⟨hstk.1, hstk.2, hs2.bxs, hs2.fz⟩, ht2⟩
              · cases hk
            · cases hk
          cases e with
          | normal =>
            refine fin ?_
            rw [← hk]
            cases s'.stk <;> rfl
          | ret =>
            refine fin ?_
            rw [← hk]
            cases s'.stk <;> rfl
          | exit i => cases hk
        · cases h
      · cases h
    · intro g tm tms w vals gb l hs hG hv hgb hl
      simp only [inlineC] at h
      split at h
      · rename_i f id env hbx
        split at h
        · rename_i fn hf
          split at h
          · rename_i c hb
            split at h
            · rename_i cd hcd
              cases hchk : (Nat.beq cd.ps.length args.length && (noRange cd.assign && noRange cd.body)) with
              | false => rw [hchk] at h; cases h
              | true =>
                rw [hchk, cond_true] at h
                simp only [Bool.and_eq_true] at hchk
                obtain ⟨gb', p1, p2⟩ := hs.bxs.box _ _ hbx
                rw [hgb] at p1
                cases p1
                obtain ⟨p3, p4, l', tmr, D, fnr, cdr, p5, p6, p7, p8, p9, p10⟩ := p2
                rw [hl] at p5
                cases p5
                have hmem := find_mem hcd
                have hcdr : cdr = cd := by
                  have := codes_of hE hf hb _ hmem
                  simp only at this
                  rw [p6] at this
                  exact Option.some.inj this
                subst hcdr
                have hnt := rangesOf_n hmem
                simp only at hnt
                rw [hnt] at p9
                have hlen := Nat.eq_of_beq_eq_true hchk.1
                have hps := (rangesOf_dsts (funOk_of (hE.func f fn hf).2 hb).1 hmem).1
                obtain ⟨e1, e2⟩ := putL_ok (g := g) (ps := cdr.ps) (args := args) (vals := vals.toList) hv (show EnvR g env tmr from p8) hlen (fun p hp => Nat.lt_of_lt_of_le (hps p hp) p9)
                have hvl : vals.size = cdr.ps.length := by
                  rw [hlen]
                  have : ∀ {l : List AV} {cs : List Value}, VsR g l cs → l.length = cs.length := by
                    intro l
                    induction l with
                    | nil => intro cs h; cases cs with | nil => rfl | cons c cs => exact h.elim
                    | cons a l ih => intro cs h; cases cs with | nil => exact h.elim | cons c cs => simp [ih h.2]
                  rw [← Array.length_toList]
                  exact (this hv).symm
                refine ⟨fnr, _, cdr.assign, cdr.body, run_yield p7 (by simpa using hvl), fun F n hW => ?_⟩
                simp only
                rw [zip_foldl]
                exact round_ok hE (inlineC_ok hE d) hf hb hmem hchk.2.1 hchk.2.2 h e1 (by rw [e2]; exact p9) hs hG ⟨gb, l, hgb, p3, hl, rfl⟩ hW fnr
            · cases h
          · cases h
        · cases h
      · cases h

theorem resK_eq {R : Type} {bx : Bxs} : ∀ {l : List Ty} {vs : List AV} {K : tysDen l → Option R}, resK bx l vs K = argsK (frzAll bx) l vs K
  | [], [], K => rfl
  | [], _ :: _, K => rfl
  | _ :: _, [], K => rfl
  | T :: l, v :: vs, K => by
    simp only [resK, argsK]
    split
    · exact resK_eq
    · rfl

/-- A function's run from arguments that are known in more than their types. -/
def runV (E : Env0) (f : Nat) (fn : Func) (c : Code) (vs : List AV) (res : List Ty) : Option (tysDen res) :=
  runC E (inlineC E depth) depth f 0 c { env := params 0 vs, stk := [], bxs := [] } fun e s =>
    match e with
    | .exit _ => none
    | _ => match resOf E.C s fn.results.toList with
      | some vs => resK s.bxs res vs some
      | none => none

/-- A function, from the run of its body. -/
theorem pure_core (hE : EnvOK P E) {f : Nat} {fn : Func} {c : Code} (hf : find E.F f = some fn) (hb : fn.body = some c) {res : List Ty} {fz : Nat → Nat → Option Value} {w : World} {args : Array Value} {vs : List AV} {y : tysDen res}
    (hG : GlobOK E.C fz) (hF : FzOK (.of fz) w) (ha : VsR (.of fz) vs args.toList) (h : runV E f fn c vs res = some y) :
    Calls P f args w fun e w' => ∃ cs fz', e = .returned (resVal cs) ∧ TVs fz' res y cs ∧ FzOK (.of fz') w' ∧ Tr (.of fz) w (.of fz') w' := by
  obtain ⟨hfn, hfo⟩ := hE.func f fn hf
  have hd := funOk_of hfo hb
  refine callsIn_wide.1 (callsIn_of_wp_marks (n := 0) hfn hb trivial ?_)
  unfold runV at h
  have hs0 : StR (.of fz) { env := params 0 vs, stk := [], bxs := [] } (args ++ Array.replicate (fn.ntmps - args.size) undef) [] w := ⟨envR_params ha _, trivial, bxR_nil, hF⟩
  refine runC_ok hE .base (N := w.heap.size) (nt := fn.ntmps) (n := (args ++ Array.replicate (fn.ntmps - args.size) undef).size) (inlineC_ok hE depth) (by simp; omega) c (dstsOk_mono (by simp; omega) hd.1) hd.2.1 (fun b hb' l hl => hE.loop _ _ f fn c b l hf hb hb' hl) (.inl rfl) (codes_of hE hf hb) h hs0 hG rfl Mk.nil (Nat.le_refl _) ?_
  intro e s' tm' g' w' ds' hk hs' ht _ hm'
  dsimp only at hk
  have fin : (match resOf E.C s' fn.results.toList with | some vs => resK s'.bxs res vs some | none => none) = some y →
      LeavesInM Fence.wide 0 P fn tm' (fun e w' => ∃ cs fz', e = .returned (resVal cs) ∧ TVs fz' res y cs ∧ FzOK (.of fz') w' ∧ Tr (.of fz) w (.of fz') w') ds' .returning w' := by
    intro hk
    refine leavesM (g0 := .of fz) (w0 := w) (g := g') (s := s') (tms := []) (fun w' hs' ht => ?_) ds' w' hs' ht hm'
    split at hk
    · rename_i vs hvs
      obtain ⟨cs, h1, h2, h3⟩ := results_ok hE.cfg hs' hvs
      rw [resK_eq] at hk
      obtain ⟨fz1, h4, t4⟩ := StR.frzKeys s'.bxs hs'
      have hx : ExtBut none g' ⟨fz1, g'.bx⟩ := ⟨t4.fz, fun _ _ _ h => h, fun _ _ h _ => nomatch h⟩
      have hvm : ∀ {l : List AV} {cs : List Value}, VsR g' l cs → VsR ⟨fz1, g'.bx⟩ l cs := by
        intro l
        induction l with
        | nil => intro cs h; cases cs <;> exact h
        | cons v l ih =>
          intro cs h
          cases cs with
          | nil => exact h.elim
          | cons c cs => exact ⟨h.1.grow hx, ih h.2⟩
      obtain ⟨y', h5, h6⟩ := argsK_ok h4.bxs.w h4.fz hk (hvm h2)
      cases h5
      have t5 := ht.trans t4
      exact ⟨_, run_results h1, cs, fz1, rfl, h6, h4.fz, ⟨t5.os, t5.tape, t5.output, t5.size, t5.fz, t5.fzNew, fun b h => (not_owned _ _ h).elim, t5.block⟩⟩
    · cases hk
  cases e with
  | normal => exact fin hk
  | ret => exact fin hk
  | exit i => cases hk

theorem pure_of_run (hE : EnvOK P E) {f : Nat} {fn : Func} {c : Code} (hf : find E.F f = some fn) (hb : fn.body = some c) (p : PSpec) (hp : ∀ x y, p.fn x = some y → runF E f fn c p.args p.res x = some y) : PureOK P E.C f p := by
  intro fz w args x y hG hF ha hx
  exact pure_core hE hf hb hG hF (TVs.vsR (g := .of fz) ha) (hp x y hx)

/-- A function that asks whether its first argument, a slice, is nil. -/
theorem pure_nil (hE : EnvOK P E) {f : Nat} {fn : Func} {c : Code} (hf : find E.F f = some fn) (hb : fn.body = some c) (T : Ty) (args res : List Ty) (F : tysDen (.sl T :: args) → Option (tysDen res))
    (h1 : ∀ x y, F ([], x) = some y → runV E f fn c (.nils :: tysAV args x) res = some y) (h2 : ∀ l x y, F (l, x) = some y → runV E f fn c (.nn T l :: tysAV args x) res = some y) :
    PureOK P E.C f { args := .sl T :: args, res := res, fn := F } := by
  intro fz w vals x y hG hF ha hx
  obtain ⟨l, x⟩ := x
  have hx' : F (l, x) = some y := hx
  have ha' : TVs fz (.sl T :: args) (l, x) vals.toList := ha
  generalize hv : vals.toList = vl at ha'
  cases vl with
  | nil => exact ha'.elim
  | cons v vl =>
    obtain ⟨⟨arr, ⟨v', e1, e2⟩, e3⟩, hr⟩ := ha'
    have e4 : v = v' := by
      rw [e3]
      show arr.getD 0 undef = v'
      rw [Array.getD_eq_getD_getElem?, ← Array.getElem?_toList, e1]
      rfl
    subst e4
    rcases e2 with ⟨e5, e6⟩ | ⟨blk, off, cap, cs, e5, q1, q2, q3⟩
    · have e5' : l = [] := e5
      subst e5'
      refine pure_core hE hf hb hG hF ?_ (h1 x y hx')
      rw [hv]
      exact ⟨by rw [e6]; rfl, TVs.vsR (g := .of fz) hr⟩
    · refine pure_core hE hf hb hG hF ?_ (h2 l x y hx')
      rw [hv]
      exact ⟨⟨blk, off, cap, cs, by rw [e5], q1, q2, q3⟩, TVs.vsR (g := .of fz) hr⟩

/-- A slice that is returned. -/
theorem resRow_ok {g : Gh} {s : St} {tm : Array Value} {tms : List (Array Value)} {w : World} (hs : StR g s tm tms w) {T : Ty} {fz : Bool} {v : AV} {l : List T.den} (h : resRow s.bxs T fz v = some l) {c : Value} (hv : VR g v c) :
    ∃ gb, gb.isRow = true ∧ WinR gb .whole c ∧ BoxR g (.row T fz l) gb w ∧ ∀ blk, gb.blk = some blk → gb.own = true → owned g blk := by
  unfold resRow at h
  split at h
  · simp only [Option.some.injEq] at h
    subst h
    have hc : [c] = [Value.slice none 0 0] := hv
    simp only [List.cons.injEq, and_true] at hc
    subst hc
    exact ⟨⟨true, false, none, 0, 0, 0, T.size⟩, rfl, ⟨rfl, rfl⟩, ⟨rfl, rfl, rfl, Nat.le_refl _, rfl, rfl, rfl⟩, (fun _ h => nomatch h)⟩
  · rename_i S l'
    cases fz with
    | false => cases h
    | true =>
      rw [cond_true] at h
      split at h
      · rename_i hS
        subst hS
        simp only [Option.some.injEq] at h
        subst h
        obtain ⟨blk, off, cs, hc, h1, h2⟩ := (show GR g (.full S l') [c] from hv)
        simp only [List.cons.injEq, and_true] at hc
        subst hc
        exact ⟨⟨true, false, some blk, off, l'.length, l'.length, S.size⟩, rfl, rfl, ⟨rfl, rfl, rfl, Nat.le_refl _, .inl rfl, rfl, cs, h1, h2⟩, (fun _ _ h => nomatch h)⟩
      · cases h
  · rename_i b
    split at h
    · rename_i S f l' hb
      cases hf : f == fz with
      | false => rw [hf] at h; cases h
      | true =>
        rw [hf, cond_true] at h
        split at h
        · rename_i hS
          subst hS
          simp only [Option.some.injEq] at h
          subst h
          have hff := eq_of_beq hf
          subst hff
          obtain ⟨gb, v, e1, e2, e3, hw⟩ := (show GR g (.row b .whole) [c] from hv)
          simp only [List.cons.injEq, and_true] at e3
          subst e3
          obtain ⟨gb', q1, q2⟩ := hs.bxs.box _ _ hb
          rw [e1] at q1
          cases q1
          exact ⟨gb, e2, hw, q2, fun blk p1 p2 => ⟨b, gb, e1, p1, p2⟩⟩
        · cases h
    · cases h
  · cases h

/-- A function that returns a slice of its own, from the run of its body. -/
theorem fresh_core (hE : EnvOK P E) {f : Nat} {fn : Func} {c : Code} (hf : find E.F f = some fn) (hb : fn.body = some c) {T : Ty} {fr : Bool} {fz : Nat → Nat → Option Value} {w : World} {args : Array Value} {vs : List AV} {y : List T.den}
    (hG : GlobOK E.C fz) (hF : FzOK (.of fz) w) (ha : VsR (.of fz) vs args.toList) (h : runR E f fn c vs T fr = some y) :
    Calls P f args w fun e w' => ∃ v fz' gb, e = .returned v ∧ gb.isRow = true ∧ WinR gb .whole v ∧ BoxR (.of fz') (.row T fr y) gb w' ∧ (∀ blk, gb.blk = some blk → gb.own = true → w.heap.size ≤ blk) ∧ FzOK (.of fz') w' ∧ Tr (.of fz) w (.of fz') w' := by
  obtain ⟨hfn, hfo⟩ := hE.func f fn hf
  have hd := funOk_of hfo hb
  refine callsIn_wide.1 (callsIn_of_wp_marks (n := 0) hfn hb trivial ?_)
  unfold runR at h
  have hs0 : StR (.of fz) { env := params 0 vs, stk := [], bxs := [] } (args ++ Array.replicate (fn.ntmps - args.size) undef) [] w := ⟨envR_params ha _, trivial, bxR_nil, hF⟩
  refine runC_ok hE .base (N := w.heap.size) (nt := fn.ntmps) (n := (args ++ Array.replicate (fn.ntmps - args.size) undef).size) (inlineC_ok hE depth) (by simp; omega) c (dstsOk_mono (by simp; omega) hd.1) hd.2.1 (fun b hb' l hl => hE.loop _ _ f fn c b l hf hb hb' hl) (.inl rfl) (codes_of hE hf hb) h hs0 hG rfl Mk.nil (Nat.le_refl _) ?_
  intro e s' tm' g' w' ds' hk hs' ht _ hm'
  dsimp only at hk
  have fin : (match resOf E.C s' fn.results.toList with | some [v] => resRow (bif fr then frzL s'.bxs [v] else s'.bxs) T fr v | _ => none) = some y →
      LeavesInM Fence.wide 0 P fn tm' (fun e w' => ∃ v fz' gb, e = .returned v ∧ gb.isRow = true ∧ WinR gb .whole v ∧ BoxR (.of fz') (.row T fr y) gb w' ∧ (∀ blk, gb.blk = some blk → gb.own = true → w.heap.size ≤ blk) ∧ FzOK (.of fz') w' ∧ Tr (.of fz) w (.of fz') w') ds' .returning w' := by
    intro hk
    refine leavesM (g0 := .of fz) (w0 := w) (g := g') (s := s') (tms := []) (fun w' hs' ht => ?_) ds' w' hs' ht hm'
    split at hk
    · rename_i v hvs
      obtain ⟨cs, h1, h2, h3⟩ := results_ok hE.cfg hs' hvs
      have hst : ∃ fz1, StR ⟨fz1, g'.bx⟩ { s' with bxs := bif fr then frzL s'.bxs [v] else s'.bxs } tm' [] w' ∧ Tr g' w' ⟨fz1, g'.bx⟩ w' := by
        cases fr with
        | false => exact ⟨g'.fz, hs', Tr.refl _ _⟩
        | true => exact StR.frzL [v] hs'
      obtain ⟨fz1, h4, t4⟩ := hst
      have hx : ExtBut none g' ⟨fz1, g'.bx⟩ := ⟨t4.fz, fun _ _ _ h => h, fun _ _ h _ => nomatch h⟩
      match cs, h2 with
      | [c], h2 =>
        obtain ⟨gb, k1, k2, k3, k4⟩ := resRow_ok h4 hk (h2.1.grow hx)
        have t5 := ht.trans t4
        exact ⟨_, run_results h1, c, fz1, gb, rfl, k1, k2, boxR_fzSame rfl k3, fun blk e1 e2 => (t5.own blk (k4 blk e1 e2)).resolve_left (not_owned _ _), h4.fz, ⟨t5.os, t5.tape, t5.output, t5.size, t5.fz, t5.fzNew, fun b h => (not_owned _ _ h).elim, t5.block⟩⟩
      | [], h2 => exact h2.elim
      | _ :: _ :: _, h2 => exact h2.2.elim
    · cases hk
  cases e with
  | normal => exact fin hk
  | ret => exact fin hk
  | exit i => cases hk

theorem fresh_of_run (hE : EnvOK P E) {f : Nat} {fn : Func} {c : Code} (hf : find E.F f = some fn) (hb : fn.body = some c) (p : RSpec) (hp : ∀ x y, p.fn x = some y → runR E f fn c (tysAV p.args x) p.T p.fz = some y) : FreshOK P E.C f p := by
  intro fz w args x y hG hF ha hx
  exact fresh_core hE hf hb hG hF (TVs.vsR (g := .of fz) ha) (hp x y hx)

/-- The same of one that asks whether its first argument, a slice, is nil. -/
theorem fresh_nil (hE : EnvOK P E) {f : Nat} {fn : Func} {c : Code} (hf : find E.F f = some fn) (hb : fn.body = some c) (S : Ty) (args : List Ty) (T : Ty) (fr : Bool) (F : tysDen (.sl S :: args) → Option (List T.den))
    (h1 : ∀ x y, F ([], x) = some y → runR E f fn c (.nils :: tysAV args x) T fr = some y) (h2 : ∀ l x y, F (l, x) = some y → runR E f fn c (.nn S l :: tysAV args x) T fr = some y) :
    FreshOK P E.C f { args := .sl S :: args, T := T, fz := fr, fn := F } := by
  intro fz w vals x y hG hF ha hx
  obtain ⟨l, x⟩ := x
  have hx' : F (l, x) = some y := hx
  have ha' : TVs fz (.sl S :: args) (l, x) vals.toList := ha
  generalize hv : vals.toList = vl at ha'
  cases vl with
  | nil => exact ha'.elim
  | cons v vl =>
    obtain ⟨⟨arr, ⟨v', e1, e2⟩, e3⟩, hr⟩ := ha'
    have e4 : v = v' := by
      rw [e3]
      show arr.getD 0 undef = v'
      rw [Array.getD_eq_getD_getElem?, ← Array.getElem?_toList, e1]
      rfl
    subst e4
    rcases e2 with ⟨e5, e6⟩ | ⟨blk, off, cap, cs, e5, q1, q2, q3⟩
    · have e5' : l = [] := e5
      subst e5'
      refine fresh_core hE hf hb hG hF ?_ (h1 x y hx')
      rw [hv]
      exact ⟨by rw [e6]; rfl, TVs.vsR (g := .of fz) hr⟩
    · refine fresh_core hE hf hb hG hF ?_ (h2 l x y hx')
      rw [hv]
      exact ⟨⟨blk, off, cap, cs, by rw [e5], q1, q2, q3⟩, TVs.vsR (g := .of fz) hr⟩

theorem decV_ok {R : Type} {g : Gh} {bxs : Bxs} {w : World} (hb : BxW g bxs w) (hf : FzOK g w) {ks : List Nat} : ∀ {l : List Sh} {vs : List AV} {K : shDen l → Option R} {r : R} {cs : List Value}, l.all (fun x => x.ok ks && (match x with | .cst v => v.okGs | .ty _ => true)) = true → decV bxs l vs K = some r → VsR g vs cs →
    ∃ x, K x = some r ∧ VsR (g.keep ks) (encV l x) cs
  | [], [], K, r, [], _, h, _ => ⟨(), h, trivial⟩
  | [], [], _, _, _ :: _, _, _, h => h.elim
  | .ty T :: l, v :: vs, K, r, c :: cs, hk, h, ⟨h1, h2⟩ => by
    simp only [List.all_cons, Bool.and_eq_true] at hk
    simp only [decV] at h
    split at h
    · rename_i x hx
      obtain ⟨y, h3, h4⟩ := decV_ok hb hf hk.2 h h2
      exact ⟨(x, y), h3, (TV.vr (g := g.keep ks) (norm_tv hb hf hx h1)).vr', h4⟩
    · cases h
  | .cst u :: l, v :: vs, K, r, c :: cs, hk, h, ⟨h1, h2⟩ => by
    simp only [List.all_cons, Bool.and_eq_true] at hk
    simp only [decV] at h
    cases hs : v.same u
    · rw [hs] at h; cases h
    · rw [hs] at h
      simp only [cond_true] at h
      have := same_eq hs
      subst this
      obtain ⟨y, h3, h4⟩ := decV_ok hb hf hk.2 h h2
      exact ⟨y, h3, vr_keep hk.1.1 h1, h4⟩
  | _ :: _, _ :: _, _, _, [], _, _, h => h.elim
  | [], _ :: _, _, _, _, _, h, _ => by simp [decV] at h
  | .ty _ :: _, [], _, _, _, _, h, _ => by simp [decV] at h
  | .cst _ :: _, [], _, _, _, _, h, _ => by simp [decV] at h

/-- The addresses of variables. -/
theorem varPtrs_ok {g : Gh} {w : World} : ∀ (l : List (Nat × BSh)) (n : Nat), (∀ k sh, (k, BSh.var sh) ∈ l → ∃ gb blk, g.bx k = some gb ∧ gb.isRow = false ∧ gb.blk = some blk) →
    ∃ tm : Nat → Value, ∀ m v, find (varPtrs n l) m = some v → n ≤ m ∧ VR g v (tm m)
  | [], n, _ => ⟨fun _ => undef, fun _ _ h => nomatch h⟩
  | (k, .row _ _) :: l, n, h => by
    obtain ⟨tm, h1⟩ := varPtrs_ok (g := g) (w := w) l n (fun k sh hm => h k sh (by simp [hm]))
    exact ⟨tm, h1⟩
  | (k, .loop _ _ _ _) :: l, n, h => by
    obtain ⟨tm, h1⟩ := varPtrs_ok (g := g) (w := w) l n (fun k sh hm => h k sh (by simp [hm]))
    exact ⟨tm, h1⟩
  | (k, .var sh) :: l, n, h => by
    obtain ⟨tm, h1⟩ := varPtrs_ok (g := g) (w := w) l (n + 1) (fun k sh hm => h k sh (by simp [hm]))
    obtain ⟨gb, blk, e1, e2, e3⟩ := h k sh (by simp)
    refine ⟨fun m => if m = n then .pointer (some ⟨blk, 0, none⟩) else tm m, fun m v e => ?_⟩
    by_cases hm : n = m
    · subst hm
      simp only [varPtrs, find_cons_same, Option.some.injEq] at e
      subst e
      exact ⟨Nat.le_refl _, gb, blk, e1, e2, e3, (fun _ h => nomatch h), by simp [stepsOff]⟩
    · simp only [varPtrs, find_cons_other _ _ hm] at e
      obtain ⟨h2, h3⟩ := h1 m v e
      refine ⟨by omega, ?_⟩
      simp only
      rw [if_neg (Ne.symm hm)]
      exact h3

theorem varPtrs_lt : ∀ (l : List (Nat × BSh)) (n m : Nat) (v : AV), find (varPtrs n l) m = some v → m < n + l.length
  | (k, .row _ _) :: l, n, m, v, h => by
    have := varPtrs_lt l n m v h
    simp only [List.length_cons]; omega
  | (k, .loop _ _ _ _) :: l, n, m, v, h => by
    have := varPtrs_lt l n m v h
    simp only [List.length_cons]; omega
  | (k, .var sh) :: l, n, m, v, h => by
    by_cases hm : n = m
    · simp only [List.length_cons]; omega
    · simp only [varPtrs, find_cons_other _ _ hm] at h
      have := varPtrs_lt l (n + 1) m v h
      simp only [List.length_cons]; omega

theorem varPtrs_mem : ∀ {l : List (Nat × BSh)} {n : Nat} {k : Nat} {sh : List Sh}, (k, BSh.var sh) ∈ l → ∃ m, (m, AV.ptr k 0 []) ∈ varPtrs n l
  | (j, .row _ _) :: l, n, k, sh, h => by
    rcases List.mem_cons.1 h with h | h
    · cases h
    · exact varPtrs_mem (l := l) h
  | (j, .loop _ _ _ _) :: l, n, k, sh, h => by
    rcases List.mem_cons.1 h with h | h
    · cases h
    · exact varPtrs_mem (l := l) h
  | (j, .var gs) :: l, n, k, sh, h => by
    rcases List.mem_cons.1 h with h | h
    · cases h; exact ⟨n, by simp [varPtrs]⟩
    · obtain ⟨m, hm⟩ := varPtrs_mem (l := l) (n := n + 1) h
      exact ⟨m, by simp [varPtrs, hm]⟩

theorem ptrsOk_mem {env : Env} : ∀ {l : Env}, ptrsOk env l = true → ∀ n v, (n, v) ∈ l → find env n = some v
  | (m, u) :: l, h, n, v, hm => by
    simp only [ptrsOk, Bool.and_eq_true] at h
    rcases List.mem_cons.1 hm with e | hm
    · cases e
      have h1 := h.1
      split at h1
      · rename_i x hx
        rw [hx, same_eq h1]
      · cases h1
    · exact ptrsOk_mem h.2 n v hm

theorem enc_mem_var {l : List (Nat × BSh)} {x : bxsDen l} {k : Nat} {gs : List AV} (h : find (encBxs l x) k = some (.var gs)) : ∃ sh, (k, BSh.var sh) ∈ l := by
  rcases find_enc h with ⟨_, _, _, e, _⟩ | ⟨sh, _, _, m⟩ | ⟨_, _, _, _, _, e, _⟩
  · cases e
  · exact ⟨sh, m⟩
  · cases e

/-- A function that is handed boxes, from the run of its body. -/
theorem call_of_run (hE : EnvOK P E) {f : Nat} {fn : Func} {c : Code} (hf : find E.F f = some fn) (hb : fn.body = some c) (p : CSpec) (hok : p.ok = true) (hp : ∀ x y, p.fn x = some y → runS E f fn c p x = some y) : CallOK P E.C f p := by
  intro g w vals xa xb y hG hs hy
  have h := hp _ _ hy
  simp only [CSpec.ok, Bool.and_eq_true] at hok
  obtain ⟨⟨⟨⟨⟨a1, a2⟩, a3⟩, a4⟩, a5⟩, a6⟩ := hok
  obtain ⟨hkeys, hrows⟩ := kindOk_keys a5
  obtain ⟨hfn, hfo⟩ := hE.func f fn hf
  have hd := funOk_of hfo hb
  refine callsIn_wide.1 (callsIn_of_wp_marks (n := 0) hfn hb trivial ?_)
  unfold runS at h
  -- the variables' addresses, in a frame below
  have hvars : ∀ k sh, (k, BSh.var sh) ∈ p.ins → ∃ gb blk, g.bx k = some gb ∧ gb.isRow = false ∧ gb.blk = some blk := by
    intro k sh hm
    have hsome := find_encBxs (l := p.ins) (x := xb) (k := k) (List.mem_map.2 ⟨_, hm, rfl⟩)
    obtain ⟨b, hbk⟩ := Option.isSome_iff_exists.1 hsome
    obtain ⟨gb, e1, e2⟩ := hs.bxs.box k b hbk
    have hnr : k ∉ rowKeys p.ins := by
      intro hr
      -- a key stands once
      have : ∀ {l : List (Nat × BSh)}, idsOk (l.map (·.1)) = true → (k, BSh.var sh) ∈ l → k ∉ rowKeys l := by
        intro l
        induction l with
        | nil => intro _ h; cases h
        | cons x l ih =>
          intro hi hm hr
          obtain ⟨j, d⟩ := x
          simp only [List.map_cons, idsOk, Bool.and_eq_true, Bool.not_eq_true'] at hi
          rcases List.mem_cons.1 hm with e | hm2
          · cases e
            simp only [rowKeys] at hr
            rw [List.contains_iff_mem.2 (mem_rowKeys hr)] at hi
            cases hi.1
          · cases d with
            | row T fz =>
              simp only [rowKeys, List.mem_cons] at hr
              rcases hr with rfl | hr
              · have hc : (l.map (·.1)).contains k = true := List.contains_iff_mem.2 (List.mem_map.2 ⟨(k, BSh.var sh), hm2, rfl⟩)
                rw [hc] at hi
                cases hi.1
              · exact ih hi.2 hm2 hr
            | var gs =>
              simp only [rowKeys] at hr
              exact ih hi.2 hm2 hr
            | loop u f i e =>
              simp only [rowKeys] at hr
              exact ih hi.2 hm2 hr
      exact this a6 hm hr
    rcases find_enc hbk with ⟨T, fz, l, _, m⟩ | ⟨sh', l, rfl, _⟩ | ⟨_, _, _, _, _, _, m⟩
    rotate_left 2
    · exact ((kindOk_noLoop a5).1 _ _ _ _ _ m).elim
    · exact absurd m hnr
    · obtain ⟨k1, k2, blk, cells, k3, _⟩ := e2
      exact ⟨gb, blk, e1, k1, k3⟩
  obtain ⟨tmf, htm⟩ := varPtrs_ok (w := w) p.ins 0 hvars
  let tmp : Array Value := (Array.range p.ins.length).map tmf
  have htmp : EnvR g (varPtrs 0 p.ins) tmp := by
    intro n v e
    have hlt := varPtrs_lt p.ins 0 n v e
    have : tmp.getD n undef = tmf n := by
      simp only [tmp, Array.getD_eq_getD_getElem?, Array.getElem?_map, Array.getElem?_range]
      rw [if_pos (by omega)]
      rfl
    rw [this]
    exact (htm n v e).2
  have henv : EnvR g (encEnv p.args xa) (vals ++ Array.replicate (fn.ntmps - vals.size) undef) := by
    intro n v e
    have := hs.env n v e
    have eq : (vals ++ Array.replicate (fn.ntmps - vals.size) undef).getD n undef = vals.getD n undef := by
      simp only [Array.getD_eq_getD_getElem?]
      by_cases hn : n < vals.size
      · rw [Array.getElem?_append_left hn]
      · rw [Array.getElem?_append_right (by omega), Array.getElem?_eq_none (show vals.size ≤ n by omega), Array.getElem?_replicate]
        split <;> rfl
    rw [eq]
    exact this
  have hs0 : StR g { env := encEnv p.args xa, stk := [varPtrs 0 p.ins], bxs := encBxs p.ins xb } (vals ++ Array.replicate (fn.ntmps - vals.size) undef) [tmp] w := ⟨henv, ⟨htmp, trivial⟩, hs.bxs, hs.fz⟩
  refine runC_ok hE .base (N := w.heap.size) (nt := fn.ntmps) (n := (vals ++ Array.replicate (fn.ntmps - vals.size) undef).size) (inlineC_ok hE depth) (by simp; omega) c (dstsOk_mono (by simp; omega) hd.1) hd.2.1 (fun b hb' l hl => hE.loop _ _ f fn c b l hf hb hb' hl) (.inl rfl) (codes_of hE hf hb) h hs0 hG rfl Mk.nil (Nat.le_refl _) ?_
  intro e s' tm' g' w' ds' hk hs' ht _ hm'
  dsimp only at hk
  have fin : (match resOf E.C s' fn.results.toList with
      | some vs =>
        let bx := frzL s'.bxs (tyGs p.res vs ++ tyValsB s'.bxs p.outs)
        bif (match s'.stk with | [e] => ptrsOk e (varPtrs 0 p.ins) | _ => false) then decV bx p.res vs fun ya => decBxs bx p.outs fun yb => some (ya, yb) else none
      | none => none) = some y →
      LeavesInM Fence.wide 0 P fn tm' (fun e w' => ∃ cs g'', e = .returned (resVal cs) ∧ VsR g'' (encV p.res y.1) cs ∧ BxR g'' (encBxs p.outs y.2) w' ∧ FzOK g'' w' ∧ Tr g w g'' w' ∧
        ∀ k gb, g.bx k = some gb → gb.isRow = false → ∃ gb', g''.bx k = some gb' ∧ gb'.isRow = false ∧ gb'.blk = gb.blk) ds' .returning w' := by
    intro hk
    refine leavesM (g0 := g) (w0 := w) (g := g') (s := s') (tms := [tmp]) (fun w' hs' ht => ?_) ds' w' hs' ht hm'
    split at hk
    · rename_i vs hvs
      simp only at hk
      obtain ⟨cs, h1, h2, h3⟩ := results_ok hE.cfg hs' hvs
      obtain ⟨fz1, h4, t4⟩ := StR.frzL (tyGs p.res vs ++ tyValsB s'.bxs p.outs) hs'
      generalize frzL s'.bxs (tyGs p.res vs ++ tyValsB s'.bxs p.outs) = bx at hk h4
      cases hptr : (match s'.stk with | [e] => ptrsOk e (varPtrs 0 p.ins) | _ => false) with
      | false => rw [hptr] at hk; cases hk
      | true =>
        rw [hptr, cond_true] at hk
        have hx : ExtBut none g' ⟨fz1, g'.bx⟩ := ⟨t4.fz, fun _ _ _ h => h, fun _ _ h _ => nomatch h⟩
        have hvm : ∀ {l : List AV} {cs : List Value}, VsR g' l cs → VsR ⟨fz1, g'.bx⟩ l cs := by
          intro l
          induction l with
          | nil => intro cs h; cases cs <;> exact h
          | cons v l ih =>
            intro cs h
            cases cs with
            | nil => exact h.elim
            | cons c cs => exact ⟨h.1.grow hx, ih h.2⟩
        obtain ⟨ya, k1, k2⟩ := decV_ok h4.bxs.w h4.fz a3 hk (hvm h2)
        obtain ⟨yb, k3, k4⟩ := decBxs_ok h4.fz h4.bxs.w a4 k1
        cases k3
        have t5 := ht.trans t4
        obtain ⟨ks, hks⟩ : ∃ ks, ks = p.ins.map (·.1) := ⟨_, rfl⟩
        rw [← hks] at k2 k4
        refine ⟨_, run_results h1, cs, Gh.keep ⟨fz1, g'.bx⟩ ks, rfl, k2, ⟨?_, ?_, ?_⟩, h4.fz, t5.trans ⟨rfl, rfl, rfl, Nat.le_refl _, fun _ _ _ h => h, fun _ _ h => .inl h, ?_, fun _ _ _ => rfl⟩, ?_⟩
        · intro k b e
          obtain ⟨gb, e1, e2⟩ := k4 k b e
          exact ⟨gb, by rw [keep_in _ (List.contains_iff_mem.2 (by rw [hks, hkeys]; exact find_encBxs_mem e))]; exact e1, e2⟩
        · intro k gb e
          simp only [Gh.keep] at e
          split at e
          · rename_i hm
            exact find_encBxs (by rw [← hkeys, ← hks]; exact hm)
          · cases e
        · intro k j a b blk hne e1 e2
          simp only [Gh.keep] at e1 e2
          split at e1
          · split at e2
            · exact h4.bxs.sep k j a b blk hne e1 e2
            · cases e2
          · cases e1
        · rintro b ⟨k, gb, e1, e2⟩
          simp only [Gh.keep] at e1
          split at e1
          · exact .inl ⟨k, gb, e1, e2⟩
          · cases e1
        · intro k gb e1 e2
          -- a variable of those handed down
          obtain ⟨b, hbk⟩ := Option.isSome_iff_exists.1 (hs.bxs.dom k gb e1)
          obtain ⟨gb', f1, f2⟩ := hs.bxs.box k b hbk
          rw [e1] at f1
          cases f1
          cases b with
          | row T fz l => rw [f2.1] at e2; cases e2
          | dead =>
            rcases find_enc hbk with ⟨_, _, _, e, _⟩ | ⟨_, _, e, _⟩ | ⟨_, _, _, _, _, e, _⟩ <;> cases e
          | loop u f i e =>
            rcases find_enc hbk with ⟨_, _, _, e, _⟩ | ⟨_, _, e, _⟩ | ⟨_, _, _, _, _, _, m⟩
            · cases e
            · cases e
            · exact ((kindOk_noLoop a5).1 _ _ _ _ _ m).elim
          | var gs =>
            obtain ⟨sh, hm⟩ := enc_mem_var hbk
            obtain ⟨_, _, blk, cells, f3, _⟩ := f2
            obtain ⟨m, hmem⟩ := varPtrs_mem (n := 0) hm
            cases hst : s'.stk with
            | nil => rw [hst] at hptr; cases hptr
            | cons e0 st0 =>
              cases st0 with
              | cons e1 st1 => rw [hst] at hptr; cases hptr
              | nil =>
                rw [hst] at hptr
                have hfd := ptrsOk_mem hptr m _ hmem
                have hstk := hs'.stk
                rw [hst] at hstk
                obtain ⟨gb2, blk2, q1, q2, q3, _, q4⟩ := hstk.1 m _ hfd
                -- the frame's value is the same: it was the address of the variable
                have h0 : VR g (.ptr k 0 []) (tmp.getD m undef) := by
                  have hf0 : find (varPtrs 0 p.ins) m = some (.ptr k 0 []) := by
                    have nd : ∀ {l : List (Nat × BSh)} {n m : Nat} {v : AV}, (m, v) ∈ varPtrs n l → n ≤ m ∧ find (varPtrs n l) m = some v := by
                      intro l
                      induction l with
                      | nil => intro n m v h; cases h
                      | cons x l ih =>
                        intro n m v h
                        obtain ⟨j, d⟩ := x
                        cases d with
                        | row T fz => exact ih h
                        | loop u f i e => exact ih h
                        | var gs =>
                          simp only [varPtrs, List.mem_cons] at h
                          rcases h with h | h
                          · cases h; exact ⟨Nat.le_refl _, by simp only [varPtrs, find_cons_same]⟩
                          · obtain ⟨i1, i2⟩ := ih h
                            exact ⟨by omega, by simp only [varPtrs]; rw [find_cons_other _ _ (by omega)]; exact i2⟩
                    exact (nd hmem).2
                  exact htmp m _ hf0
                obtain ⟨gb3, blk3, r1, r2, r3, _, r4⟩ := h0
                rw [e1] at r1
                cases r1
                rw [r4] at q4
                simp only [List.cons.injEq, Value.pointer.injEq, Option.some.injEq, Addr.mk.injEq, and_true] at q4
                refine ⟨gb2, ?_, q2, ?_⟩
                · rw [keep_in _ (List.contains_iff_mem.2 (by rw [hks]; exact List.mem_map.2 ⟨_, hm, rfl⟩))]
                  exact q1
                · rw [q3, r3, q4]
    · cases hk
  cases e with
  | normal => exact fin hk
  | ret => exact fin hk
  | exit i => cases hk

end
end Go.V
namespace Go.V
variable [Codes]

/-- The groups of a zero value. -/
inductive ZG where
  | val (T : Ty) | nils | nilp | nilf | nili

def ZG.av : ZG → AV
  | .val T => .val T T.dflt
  | .nils => .nils
  | .nilp => .nilp
  | .nilf => .nilf
  | .nili => .nili

def chkN (f : List Value → Option (List Value)) : Nat → List Value → Option (List Value)
  | 0, l => some l
  | n + 1, l => match f l with
    | some r => chkN f n r
    | none => none

/-- The cells of a type's zero value, and what is left. -/
def chkT : Ty → List Value → Option (List Value)
  | .int k, .int j x :: r => if k = j ∧ x = 0 then some r else none
  | .bool, .bool false :: r => some r
  | .str, .string s :: r => if s.size = 0 then some r else none
  | .sl _, .slice none 0 0 :: r => some r
  | .unit, l => some l
  | .pair a b, l => match chkT a l with
    | some r => chkT b r
    | none => none
  | .arr n e, l => chkN (fun l => chkT e l) n l
  | _, _ => none

theorem chkN_ok {α : Type} {f : List Value → Option (List Value)} {Q : α → List Value → Prop} {x : α} (h : ∀ cs r, f cs = some r → ∃ c, cs = c ++ r ∧ Q x c) : ∀ {n : Nat} {cs r : List Value}, chkN f n cs = some r → ∃ c, cs = c ++ r ∧ Elems Q (List.replicate n x) c
  | 0, cs, r, e => by
    simp only [chkN, Option.some.injEq] at e
    exact ⟨[], by simp [e], rfl⟩
  | n + 1, cs, r, e => by
    simp only [chkN] at e
    split at e
    · rename_i r1 h1
      obtain ⟨c1, rfl, q1⟩ := h _ _ h1
      obtain ⟨c2, rfl, q2⟩ := chkN_ok h e
      exact ⟨c1 ++ c2, by simp, c1, c2, rfl, q1, q2⟩
    · cases e

theorem chkT_ok {fz : Nat → Nat → Option Value} : ∀ {T : Ty} {cs r : List Value}, chkT T cs = some r → ∃ c, cs = c ++ r ∧ CR fz T T.dflt c := by
  intro T
  induction T with
  | int k =>
    intro cs r h
    match cs, h with
    | .int j x :: r', h =>
      simp only [chkT] at h
      split at h
      · rename_i hc
        simp only [Option.some.injEq] at h
        subst h
        exact ⟨[_], rfl, by rw [hc.1, hc.2]; rfl⟩
      · cases h
  | bool =>
    intro cs r h
    match cs, h with
    | .bool false :: r', h => simp only [chkT, Option.some.injEq] at h; subst h; exact ⟨[_], rfl, rfl⟩
  | str =>
    intro cs r h
    match cs, h with
    | .string s :: r', h =>
      simp only [chkT] at h
      split at h
      · rename_i hs
        simp only [Option.some.injEq] at h
        subst h
        refine ⟨[_], rfl, ?_⟩
        have : s = ⟨#[]⟩ := by
          obtain ⟨a⟩ := s
          congr 1
          exact Array.eq_empty_of_size_eq_zero hs
        rw [this]
        rfl
      · cases h
  | sl e _ =>
    intro cs r h
    match cs, h with
    | .slice none 0 0 :: r', h => simp only [chkT, Option.some.injEq] at h; subst h; exact ⟨[_], rfl, _, rfl, .inl ⟨rfl, rfl⟩⟩
  | unit =>
    intro cs r h
    simp only [chkT, Option.some.injEq] at h
    subst h
    exact ⟨[], rfl, rfl⟩
  | pair a b iha ihb =>
    intro cs r h
    simp only [chkT] at h
    split at h
    · rename_i r1 h1
      obtain ⟨c1, rfl, q1⟩ := iha h1
      obtain ⟨c2, rfl, q2⟩ := ihb h
      exact ⟨c1 ++ c2, by simp, c1, c2, rfl, q1, q2⟩
    · cases h
  | arr n e ih =>
    intro cs r h
    simp only [chkT] at h
    obtain ⟨c, e1, e2⟩ := chkN_ok (Q := CR fz e) (x := e.dflt) (fun cs r h => ih h) h
    exact ⟨c, e1, by simp [Ty.dflt], e2⟩

def chkZ : List ZG → List Value → Bool
  | [], [] => true
  | .val T :: l, cs => match chkT T cs with
    | some r => chkZ l r
    | none => false
  | .nils :: l, .slice none 0 0 :: r => chkZ l r
  | .nilp :: l, .pointer none :: r => chkZ l r
  | .nilf :: l, .nilFunc :: r => chkZ l r
  | .nili :: l, .nilIface :: r => chkZ l r
  | _, _ => false

theorem chkZ_ok {g : Gh} : ∀ {l : List ZG} {cs : List Value}, chkZ l cs = true → GsR g (l.map ZG.av) cs
  | [], [], _ => rfl
  | [], _ :: _, h => by simp [chkZ] at h
  | .val T :: l, cs, h => by
    simp only [chkZ] at h
    split at h
    · rename_i r hr
      obtain ⟨c, rfl, q⟩ := chkT_ok (fz := g.fz) hr
      exact ⟨c, r, rfl, q, chkZ_ok h⟩
    · cases h
  | .nils :: l, cs, h => by
    match cs, h with
    | .slice none 0 0 :: r, h => exact ⟨[_], r, rfl, rfl, chkZ_ok h⟩
  | .nilp :: l, cs, h => by
    match cs, h with
    | .pointer none :: r, h => exact ⟨[_], r, rfl, rfl, chkZ_ok h⟩
  | .nilf :: l, cs, h => by
    match cs, h with
    | .nilFunc :: r, h => exact ⟨[_], r, rfl, rfl, chkZ_ok h⟩
  | .nili :: l, cs, h => by
    match cs, h with
    | .nilIface :: r, h => exact ⟨[_], r, rfl, rfl, chkZ_ok h⟩

def chkU (u : UT) (d : Option TypeDesc) : Bool :=
  match u, d with
  | .int k, some (.int j) => decide (k = j)
  | .bool, some .bool => true
  | .str, some .string => true
  | .ptr e, some (.pointer e') => Nat.beq e e'
  | .sl e, some (.slice e') => Nat.beq e e'
  | .arr n e, some (.array n' e') => Nat.beq n n' && Nat.beq e e'
  | .st fs, some (.struct fields) => decide (fields.toList.map (fun f => (f.offset, f.type)) = fs)
  | .fn, some (.func _ _ _) => true
  | .iface, some (.interface _) => true
  | .map k e, some (.map k' e') => Nat.beq k k' && Nat.beq e e'
  | .tup, _ => true
  | .oth, _ => true
  | _, _ => false

def chkI (C : Cfg) (t : Nat) (i : TypeInfo) : Bool := Nat.beq i.size (C.size t) && Nat.beq i.bytes (C.bytes.getD t 0)

def checkAt (C : Cfg) (zs : List (Option (List ZG))) (P : Program) (t : Nat) : Bool :=
  chkU (C.under t) (P.underlying t) &&
  (Nat.beq (C.size t) 0 || (match P.info? t with | some i => chkI C t i | none => false)) &&
  (match zs.getD t none with
    | none => true
    | some gs => match P.info? t with
      | some i => chkI C t i && (match i.zero with | some z => chkZ gs z.cells.toList | none => false)
      | none => false) &&
  (match C.ty t with
    | none => true
    | some T => Nat.beq T.size (C.size t) && (match P.info? t with
      | some i => chkI C t i && Nat.ble i.bytes 65536 && (match i.zero with
        | some z => (match chkT T z.cells.toList with | some [] => true | _ => false)
        | none => false)
      | none => false))

theorem chkI_ok {C : Cfg} {t : Nat} {i : TypeInfo} (h : chkI C t i = true) : i.size = C.size t ∧ i.bytes = C.bytes.getD t 0 := by
  simp only [chkI, Bool.and_eq_true] at h
  exact ⟨Nat.eq_of_beq_eq_true h.1, Nat.eq_of_beq_eq_true h.2⟩

theorem getD_le {α : Type} {l : List α} {n : Nat} {d : α} (h : l.length ≤ n) : l.getD n d = d := by
  simp [List.getD, List.getElem?_eq_none h]

def chkEq (P : Program) (t : Nat) : Bool :=
  (match P.underlying t with | some (.struct _) => true | _ => false) && !P.stoodInHeld t && !P.eqGuardType P.depth t && eqFieldsOk 0 (P.fieldsOf t).toList

theorem cfgOK_of {C : Cfg} {P : Program} (zs : List (Option (List ZG))) (N : Nat) (he : C.eqs.all (chkEq P) = true) (hz : C.zeros = zs.map (Option.map (List.map ZG.av))) (h1 : C.unders.length ≤ N) (h2 : C.sizes.length ≤ N) (h3 : C.tys.length ≤ N) (h4 : zs.length ≤ N)
    (h : (List.range N).all (checkAt C zs P) = true) : CfgOK C P := by
  have at_ : ∀ t, t < N → checkAt C zs P t = true := fun t ht => List.all_eq_true.1 h t (List.mem_range.2 ht)
  have under : ∀ t, C.under t ≠ .oth → chkU (C.under t) (P.underlying t) = true := by
    intro t ht
    by_cases hN : t < N
    · have := at_ t hN
      simp only [checkAt, Bool.and_eq_true] at this
      exact this.1.1.1
    · exact absurd (getD_le (Nat.le_trans h1 (Nat.le_of_not_lt hN))) ht
  have go : ∀ t u, C.under t = u → u ≠ .oth → chkU u (P.underlying t) = true := fun t u e hn => by
    have := under t (by rw [e]; exact hn)
    rwa [e] at this
  refine ⟨?_, ?_, ?_, ?_, ?_, ?_, ?_, ?_, ?_, ?_, ?_, ?_, ?_, ?_⟩
  · intro t k e
    have := go t _ e (by simp)
    unfold chkU at this
    split at this <;> first | (rename_i h1 h2; cases h1; done) | (rename_i h1; cases h1; done) | (cases this; done) | skip
    rename_i k' j h1 h2
    cases h1
    rw [of_decide_eq_true this]
    exact h2
  · intro t e
    have := go t _ e (by simp)
    unfold chkU at this
    split at this <;> first | (rename_i h1 h2; cases h1; done) | (rename_i h1; cases h1; done) | (cases this; done) | skip
    rename_i h1 h2
    exact h2
  · intro t e
    have := go t _ e (by simp)
    unfold chkU at this
    split at this <;> first | (rename_i h1 h2; cases h1; done) | (rename_i h1; cases h1; done) | (cases this; done) | skip
    rename_i h1 h2
    exact h2
  · intro t e he
    have := go t _ he (by simp)
    unfold chkU at this
    split at this <;> first | (rename_i h1 h2; cases h1; done) | (rename_i h1; cases h1; done) | (cases this; done) | skip
    rename_i a b h1 h2
    cases h1
    rw [Nat.eq_of_beq_eq_true this]
    exact h2
  · intro t e he
    have := go t _ he (by simp)
    unfold chkU at this
    split at this <;> first | (rename_i h1 h2; cases h1; done) | (rename_i h1; cases h1; done) | (cases this; done) | skip
    rename_i a b h1 h2
    cases h1
    rw [Nat.eq_of_beq_eq_true this]
    exact h2
  · intro t n e he
    have := go t _ he (by simp)
    unfold chkU at this
    split at this <;> first | (rename_i h1 h2; cases h1; done) | (rename_i h1; cases h1; done) | (cases this; done) | skip
    rename_i a b c d h1 h2
    cases h1
    simp only [Bool.and_eq_true] at this
    rw [Nat.eq_of_beq_eq_true this.1, Nat.eq_of_beq_eq_true this.2]
    exact h2
  · intro t fs he
    have := go t _ he (by simp)
    unfold chkU at this
    split at this <;> first | (rename_i h1 h2; cases h1; done) | (rename_i h1; cases h1; done) | (cases this; done) | skip
    rename_i a b h1 h2
    cases h1
    exact ⟨_, h2, of_decide_eq_true this⟩
  · intro t he
    have := go t _ he (by simp)
    unfold chkU at this
    split at this <;> first | (rename_i h1 h2; cases h1; done) | (rename_i h1; cases h1; done) | (cases this; done) | skip
    rename_i a b c h1 h2
    exact ⟨_, _, _, h2⟩
  · intro t he
    have := go t _ he (by simp)
    unfold chkU at this
    split at this <;> first | (rename_i h1 h2; cases h1; done) | (rename_i h1; cases h1; done) | (cases this; done) | skip
    rename_i a h1 h2
    exact ⟨_, h2⟩
  · intro t k e he
    have := go t _ he (by simp)
    unfold chkU at this
    split at this <;> first | (rename_i h1 h2; cases h1; done) | (rename_i h1; cases h1; done) | (cases this; done) | skip
    rename_i a b c d h1 h2
    cases h1
    simp only [Bool.and_eq_true] at this
    rw [Nat.eq_of_beq_eq_true this.1, Nat.eq_of_beq_eq_true this.2]
    exact h2
  · intro t ht
    have := List.all_eq_true.1 he t (List.contains_iff_mem.1 ht)
    simp only [chkEq, Bool.and_eq_true, Bool.not_eq_true'] at this
    obtain ⟨⟨⟨h1, h2⟩, h3⟩, h4⟩ := this
    refine ⟨?_, h2, h3, h4⟩
    unfold Program.fieldsOf
    split at h1
    · rename_i fs hu; rw [hu]
    · cases h1
  · intro t ht
    by_cases hN : t < N
    · have := at_ t hN
      simp only [checkAt, Bool.and_eq_true, Bool.or_eq_true] at this
      rcases this.1.1.2 with h | h
      · exact absurd (Nat.eq_of_beq_eq_true h) ht
      · split at h
        · rename_i i hi
          exact ⟨i, hi, chkI_ok h⟩
        · cases h
    · exact absurd (getD_le (Nat.le_trans h2 (Nat.le_of_not_lt hN))) ht
  · intro t gs hgs
    have e : (zs.getD t none).map (List.map ZG.av) = some gs := by
      rw [← hgs, Cfg.zero, hz]
      simp only [List.getD, List.getElem?_map]
      cases zs[t]? <;> rfl
    rw [Option.map_eq_some_iff] at e
    obtain ⟨zg, e1, rfl⟩ := e
    by_cases hN : t < N
    · have := at_ t hN
      simp only [checkAt, Bool.and_eq_true] at this
      have h := this.1.2
      rw [e1] at h
      simp only at h
      split at h
      · rename_i i hi
        simp only [Bool.and_eq_true] at h
        obtain ⟨k1, k2⟩ := h
        split at k2
        · rename_i z hiz
          obtain ⟨k3, k4⟩ := chkI_ok k1
          exact ⟨i, z, hi, k3, k4, hiz, fun g => chkZ_ok k2⟩
        · cases k2
      · cases h
    · rw [getD_le (Nat.le_trans h4 (Nat.le_of_not_lt hN))] at e1
      cases e1
  · intro t T hT
    by_cases hN : t < N
    · have := at_ t hN
      simp only [checkAt, Bool.and_eq_true] at this
      have h := this.2
      rw [hT] at h
      simp only [Bool.and_eq_true] at h
      obtain ⟨k0, h⟩ := h
      split at h
      · rename_i i hi
        simp only [Bool.and_eq_true] at h
        obtain ⟨⟨k1, kb⟩, k2⟩ := h
        split at k2
        · rename_i z hiz
          obtain ⟨k3, k4⟩ := chkI_ok k1
          refine ⟨Nat.eq_of_beq_eq_true k0, i, z, hi, k3, k4, Nat.le_of_ble_eq_true kb, hiz, fun fz => ?_⟩
          split at k2
          · rename_i hr
            obtain ⟨c, e, q⟩ := chkT_ok (fz := fz) hr
            rw [List.append_nil] at e
            rw [e]
            exact q
          · cases k2
        · cases k2
      · cases h
    · have e : C.ty t = none := getD_le (Nat.le_trans h3 (Nat.le_of_not_lt hN))
      rw [e] at hT
      cases hT

/-! ### Loops of a function -/
theorem findLoop_ok : ∀ {l : List Code}, idsOk (l.map firstRegion) = true → ∀ {b : Code}, b ∈ l → findLoop l (firstRegion b) = b
  | [], _, _, h => by simp at h
  | c :: l, hk, b, h => by
    simp only [List.map_cons, idsOk, Bool.and_eq_true, Bool.not_eq_true'] at hk
    simp only [findLoop]
    by_cases he : firstRegion c = firstRegion b
    · rw [he, Nat.beq_refl, cond_true]
      rcases List.mem_cons.1 h with rfl | h
      · rfl
      · have : (l.map firstRegion).contains (firstRegion c) = true := by
          rw [List.contains_iff_mem, he]
          exact List.mem_map.2 ⟨b, h, rfl⟩
        rw [this] at hk
        cases hk.1
    · rw [beq_false he, cond_false]
      rcases List.mem_cons.1 h with rfl | h
      · exact absurd rfl he
      · exact findLoop_ok hk.2 h

theorem loopAt_ok {c b : Code} {fn : Func} (hb : fn.body = some c) (hf : funOk fn = true) (h : b ∈ loopsOf c) : loopAt c (firstRegion b) = b := by
  unfold funOk at hf
  rw [hb] at hf
  simp only [Bool.and_eq_true] at hf
  exact findLoop_ok hf.1.1.1.2 h

/-- The summaries of loops, one after the other. -/
def LoopsOK (E : Env0) : List (Key × LSpec) → Prop
  | [] => True
  | (k, l) :: r => (∃ fn c, find E.F k.f = some fn ∧ fn.body = some c ∧ LoopOK E k.d k.f k.base (loopAt c k.id) l) ∧ LoopsOK E r

theorem findL_in {l : List (Key × LSpec)} {E : Env0} (h : LoopsOK E l) {k : Key} {s : LSpec} (hk : findL l k = some s) : ∃ fn c, find E.F k.f = some fn ∧ fn.body = some c ∧ LoopOK E k.d k.f k.base (loopAt c k.id) s := by
  induction l with
  | nil => cases hk
  | cons x l ih =>
    obtain ⟨j, u⟩ := x
    simp only [findL] at hk
    cases hb : j.beq k
    · rw [hb] at hk; exact ih h.2 hk
    · rw [hb] at hk
      simp only [cond_true, Option.some.injEq] at hk
      subst hk
      simp only [Key.beq, Bool.and_eq_true] at hb
      obtain ⟨fn, c, h1, h2, h3⟩ := h.1
      rw [← Nat.eq_of_beq_eq_true hb.1.1.1, ← Nat.eq_of_beq_eq_true hb.1.1.2, ← Nat.eq_of_beq_eq_true hb.1.2, ← Nat.eq_of_beq_eq_true hb.2]
      exact ⟨fn, c, h1, h2, h3⟩

def FunsOK (P : Program) : List (Nat × Func) → Prop
  | [] => True
  | (f, fn) :: r => (P.funcs[f]? = some fn ∧ funOk fn = true) ∧ FunsOK P r

theorem funs_find {P : Program} : ∀ {l : List (Nat × Func)}, FunsOK P l → ∀ {f : Nat} {fn : Func}, find l f = some fn → P.funcs[f]? = some fn ∧ funOk fn = true
  | [], _, _, _, h => nomatch h
  | (f, fn) :: l, ⟨h1, h2⟩, k, u, h => by
    by_cases hk : f = k
    · subst hk; rw [find_cons_same] at h; cases h; exact h1
    · rw [find_cons_other _ _ hk] at h; exact funs_find h2 h

def PuresOK (P : Program) (C : Cfg) : List (Nat × PSpec) → Prop
  | [] => True
  | (f, p) :: r => (PureOK P C f p ∧ Enterable P f) ∧ PuresOK P C r

theorem pures_find {P : Program} {C : Cfg} : ∀ {l : List (Nat × PSpec)}, PuresOK P C l → ∀ {f : Nat} {p : PSpec}, find l f = some p → PureOK P C f p ∧ Enterable P f
  | [], _, _, _, h => nomatch h
  | (f, fn) :: l, ⟨h1, h2⟩, k, u, h => by
    by_cases hk : f = k
    · subst hk; rw [find_cons_same] at h; cases h; exact h1
    · rw [find_cons_other _ _ hk] at h; exact pures_find h2 h

def CallsOK (P : Program) (C : Cfg) : List (Nat × CSpec) → Prop
  | [] => True
  | (f, p) :: r => (CallOK P C f p ∧ p.ok = true ∧ Enterable P f) ∧ CallsOK P C r

theorem calls_find {P : Program} {C : Cfg} : ∀ {l : List (Nat × CSpec)}, CallsOK P C l → ∀ {f : Nat} {p : CSpec}, find l f = some p → CallOK P C f p ∧ p.ok = true ∧ Enterable P f
  | [], _, _, _, h => nomatch h
  | (f, fn) :: l, ⟨h1, h2⟩, k, u, h => by
    by_cases hk : f = k
    · subst hk; rw [find_cons_same] at h; cases h; exact h1
    · rw [find_cons_other _ _ hk] at h; exact calls_find h2 h

/-- The loops over functions of a program. -/
def codesOf (P : Program) (f id : Nat) : Option LCode :=
  match P.funcs[f]? with
  | some fn => match fn.body with
    | some c => find (rangesOf fn.ntmps c) id
    | none => none
  | none => none

def FreshesOK (P : Program) (C : Cfg) : List (Nat × RSpec) → Prop
  | [] => True
  | (f, p) :: r => (FreshOK P C f p ∧ Enterable P f) ∧ FreshesOK P C r

theorem fresh_find {P : Program} {C : Cfg} : ∀ {l : List (Nat × RSpec)}, FreshesOK P C l → ∀ {f : Nat} {p : RSpec}, find l f = some p → FreshOK P C f p ∧ Enterable P f
  | [], _, _, _, h => nomatch h
  | (f, fn) :: l, ⟨h1, h2⟩, k, u, h => by
    by_cases hk : f = k
    · subst hk; rw [find_cons_same] at h; cases h; exact h1
    · rw [find_cons_other _ _ hk] at h; exact fresh_find h2 h

theorem envOK_of {P : Program} {E : Env0} (hcd : ∀ f id, Codes.cd f id = codesOf P f id) (h0 : P.follows .mixedOrders = true) (h1 : CfgOK E.C P) (h2 : PuresOK P E.C E.P) (h5 : CallsOK P E.C E.S) (h3 : FunsOK P E.F) (h4 : LoopsOK E E.L) (h6 : FreshesOK P E.C E.R := by trivial) : EnvOK P E :=
  ⟨h0, h1, fun _ _ h => pures_find h2 h, fun _ _ h => fresh_find h6 h, fun _ _ h => calls_find h5 h, fun _ _ h => funs_find h3 h, fun f fn c hf hb id => by rw [hcd]; unfold codesOf; rw [(funs_find h3 hf).1]; simp only; rw [hb], fun d base f fn c b l hf hb hm hl => by
    obtain ⟨fn', c', e1, e2, e3⟩ := findL_in h4 hl
    simp only at e1 e3
    rw [hf] at e1
    cases e1
    rw [hb] at e2
    cases e2
    rw [loopAt_ok hb (funs_find h3 hf).2 hm] at e3
    exact e3⟩

/-- A loop whose summary is told by steps. -/
theorem loopOK_of {E : Env0} {d f base : Nat} {c : Code} {l : LSpec} (h0 : l.ok = true) (step : Nat → l.head.den → Option (outDen l.outs)) (h1 : ∀ x o, l.fn x = some o → ∃ n, step n x = some o) (h2 : ∀ x, step 0 x = none)
    (h3 : ∀ n x, runB E d f base c l (step n) x = step (n + 1) x) : LoopOK E d f base c l :=
  ⟨h0, step, h1, h2, fun n x o h => by rw [h3]; exact h⟩

end Go.V
namespace Go.V
variable [Codes]
section
variable {P : Program} {C : Cfg}

theorem enter_fun {f : Nat} {fn : Func} (h1 : P.funcs[f]? = some fn) (h2 : funOk fn = true) : Enterable P f := by
  unfold funOk at h2
  split at h2
  · rename_i c hc
    simp only [Bool.and_eq_true, Bool.not_eq_true'] at h2
    exact ⟨fn, h1, h2.2, by rw [hc]; rfl⟩
  · cases h2

/-- A pure function that calls itself: its contract at each number of rounds. -/
theorem pure_rec {f : FuncId} (p : PSpec) (step : Nat → tysDen p.args → Option (tysDen p.res)) (h0 : ∀ x, step 0 x = none)
    (h : ∀ n, PureOK P C f { p with fn := step n } → PureOK P C f { p with fn := step (n + 1) }) (hp : ∀ x y, p.fn x = some y → ∃ n, step n x = some y) : PureOK P C f p := by
  have all : ∀ n, PureOK P C f { p with fn := step n } := by
    intro n
    induction n with
    | zero =>
      intro fz w args x y _ _ _ hy
      have hy' : step 0 x = some y := hy
      rw [h0] at hy'
      cases hy'
    | succ n ih => exact h n ih
  intro fz w args x y hG hf ha hy
  obtain ⟨n, hn⟩ := hp x y hy
  exact all n fz w args x y hG hf ha hn

/-- The same of one that returns a slice of its own. -/
theorem fresh_rec {f : FuncId} (p : RSpec) (step : Nat → tysDen p.args → Option (List p.T.den)) (h0 : ∀ x, step 0 x = none)
    (h : ∀ n, FreshOK P C f { p with fn := step n } → FreshOK P C f { p with fn := step (n + 1) }) (hp : ∀ x y, p.fn x = some y → ∃ n, step n x = some y) : FreshOK P C f p := by
  have all : ∀ n, FreshOK P C f { p with fn := step n } := by
    intro n
    induction n with
    | zero =>
      intro fz w args x y _ _ _ hy
      have hy' : step 0 x = some y := hy
      rw [h0] at hy'
      cases hy'
    | succ n ih => exact h n ih
  intro fz w args x y hG hf ha hy
  obtain ⟨n, hn⟩ := hp x y hy
  exact all n fz w args x y hG hf ha hn

/-- The same of a function that is handed boxes. -/
theorem call_rec {f : FuncId} (p : CSpec) (step : Nat → envDen p.args × bxsDen p.ins → Option (shDen p.res × bxsDen p.outs)) (h0 : ∀ x, step 0 x = none)
    (h : ∀ n, CallOK P C f { p with fn := step n } → CallOK P C f { p with fn := step (n + 1) }) (hp : ∀ x y, p.fn x = some y → ∃ n, step n x = some y) : CallOK P C f p := by
  have all : ∀ n, CallOK P C f { p with fn := step n } := by
    intro n
    induction n with
    | zero =>
      intro g w vals xa xb y _ _ hy
      have hy' : step 0 (xa, xb) = some y := hy
      rw [h0] at hy'
      cases hy'
    | succ n ih => exact h n ih
  intro g w vals xa xb y hG hs hy
  obtain ⟨n, hn⟩ := hp _ y hy
  exact all n g w vals xa xb y hG hs hn

end
end Go.V
