/- Loops over functions: records, marks, rounds. -/
import Derived.Test.YtccdkoimpoockaaDoorVDraw
import Derived.Sort.LoopGhostIn
set_option linter.all false
set_option linter.unusedVariables false
set_option linter.unusedSectionVars false
set_option linter.unusedSimpArgs false
namespace Go.V
variable [Codes]
section
variable {P : Program} {E : Env0}

theorem VsR.grow' {g g' : Gh} (hx : ExtBut none g g') : ∀ {l : List AV} {cs : List Value}, VsR g l cs → VsR g' l cs
  | [], [], h => h
  | [], _ :: _, h => h.elim
  | _ :: _, [], h => h.elim
  | _ :: _, _ :: _, ⟨h1, h2⟩ => ⟨h1.grow hx, h2.grow' hx⟩

/-- The marks that loops over functions leave. -/
structure Mk (N : Nat) (g : Gh) (w : World) (ds : List Deferred) : Prop where
  mem : ∀ d ∈ ds, ∃ r, d = { target := .collected r, args := #[] } ∧ N ≤ r ∧ w.heap[r]? = some (.deferred (some [])) ∧ ¬ owned g r
  apart : ds.Pairwise (fun a b => ∀ r, a.target = .collected r → b.target = .collected r → False)

theorem Mk.nil {N : Nat} {g : Gh} {w : World} : Mk N g w [] := ⟨(fun _ h => nomatch h), .nil⟩

theorem Mk.tr {N : Nat} {g g' : Gh} {w w' : World} {ds : List Deferred} (h : Mk N g w ds) (t : Tr g w g' w') : Mk N g' w' ds := by
  refine ⟨fun d hd => ?_, h.apart⟩
  obtain ⟨r, e1, e2, e3, e4⟩ := h.mem d hd
  have hlt := (Array.getElem?_eq_some_iff.1 e3).1
  refine ⟨r, e1, e2, (t.block r hlt e4).trans e3, fun ho => ?_⟩
  rcases t.own r ho with h | h
  · exact e4 h
  · omega

theorem Mk.low {N M : Nat} {g : Gh} {w : World} {ds : List Deferred} (h : Mk N g w ds) (hm : M ≤ N) : Mk M g w ds :=
  ⟨fun d hd => by obtain ⟨r, e1, e2, e3⟩ := h.mem d hd; exact ⟨r, e1, by omega, e3⟩, h.apart⟩

/-- A block that no box has, and that is no cells', turns. -/
theorem StR.putOther {g : Gh} {s : St} {tm : Array Value} {tms : List (Array Value)} {w : World} (h : StR g s tm tms w) {r : Nat} {x : Option (List Deferred)} (hr : w.heap[r]? = some (.deferred x)) (hno : ¬ owned g r) (o : Obj) :
    StR g s tm tms (w.putObj r o) := by
  have hw : ∀ b, b ≠ r → (w.putObj r o).heap[b]? = w.heap[b]? := fun b hb => World.putObj_heap_other hb
  refine ⟨h.env, h.stk, ⟨fun k b e => ?_, h.bxs.dom, h.bxs.sep⟩, fun b o' v e => ?_⟩
  · obtain ⟨gb, h1, h2⟩ := h.bxs.box k b e
    exact ⟨gb, h1, h2.ext (ExtBut.refl g) (fun blk e1 e2 => hw blk (fun e => hno ⟨k, gb, h1, by rw [← e]; exact e1, e2⟩)) (fun _ _ _ _ h => h) (boxClear_none _)⟩
  · have h1 := h.fz b o' v e
    have hb : b ≠ r := by
      intro e
      subst e
      simp [World.cell?, hr] at h1
    rw [← h1]
    exact World.cell?_of_block (a := ⟨b, o', none⟩) (hw b hb)

theorem Tr.putOther {g0 g : Gh} {w0 w : World} (t : Tr g0 w0 g w) {r : Nat} (hr : w0.heap.size ≤ r) (o : Obj) : Tr g0 w0 g (w.putObj r o) :=
  ⟨t.os, t.tape, t.output, by have := t.size; simp only [World.putObj, Array.size_setIfInBounds]; exact this, t.fz, t.fzNew, t.own, fun b hb ho => (World.putObj_heap_other (by omega)).trans (t.block b hb ho)⟩

/-- A function leaves with the marks of its loops over functions. -/
theorem leavesM {fn : Func} {g0 : Gh} {w0 : World} {g : Gh} {s : St} {tm : Array Value} {tms : List (Array Value)} {R : Ending → World → Prop}
    (hR : ∀ w, StR g s tm tms w → Tr g0 w0 g w → ∃ v, (results fn tm).run P w = .ok v w ∧ R (.returned v) w) :
    ∀ (ds : List Deferred) (w : World), StR g s tm tms w → Tr g0 w0 g w → Mk w0.heap.size g w ds → LeavesInM Fence.wide 0 P fn tm R ds .returning w
  | [], w, hs, ht, _ => hR w hs ht
  | d :: ds, w, hs, ht, hm => by
    obtain ⟨r, rfl, e2, e3, e4⟩ := hm.mem d (by simp)
    refine ⟨(fun h => nomatch h), .inl ⟨r, _, rfl, run_takeDeferred e3, ?_⟩⟩
    have ap := List.pairwise_cons.1 hm.apart
    refine leavesM hR ds _ (hs.putOther e3 e4 _) (ht.putOther e2 _) ⟨fun d' hd' => ?_, ap.2⟩
    obtain ⟨r', rfl, k2, k3, k4⟩ := hm.mem d' (by simp [hd'])
    have hne : r' ≠ r := fun e => ap.1 _ hd' r rfl (by rw [e])
    exact ⟨r', rfl, k2, (World.putObj_heap_other hne).trans k3, k4⟩

/-- The slots of a loop's variables, filled. -/
theorem putL_ok {g : Gh} : ∀ {ps : List Nat} {args : List AV} {vals : List Value} {env : Env} {tm : Array Value}, VsR g args vals → EnvR g env tm → ps.length = args.length → (∀ p ∈ ps, p < tm.size) →
    EnvR g (putL ps args env) ((ps.zip vals).foldl (fun t x => t.setIfInBounds x.1 x.2) tm) ∧ ((ps.zip vals).foldl (fun t x => t.setIfInBounds x.1 x.2) tm).size = tm.size
  | [], [], vals, env, tm, _, he, _, _ => ⟨by simpa [putL] using he, by simp⟩
  | [], _ :: _, _, _, _, _, _, h, _ => by simp at h
  | _ :: _, [], _, _, _, _, _, h, _ => by simp at h
  | p :: ps, v :: args, [], _, _, h, _, _, _ => h.elim
  | p :: ps, v :: args, c :: vals, env, tm, ⟨h1, h2⟩, he, hl, hp => by
    simp only [putL, List.zip_cons_cons, List.foldl_cons]
    have he' : EnvR g ((p, v) :: env) (tm.setIfInBounds p c) := by
      intro n u e
      by_cases hn : p = n
      · subst hn
        rw [find_cons_same] at e
        cases e
        have : (tm.setIfInBounds p c).getD p undef = c := by
          rw [Array.getD_eq_getD_getElem?, Array.getElem?_setIfInBounds_self_of_lt (hp p (by simp))]; rfl
        rw [this]
        exact h1
      · rw [find_cons_other _ _ hn] at e
        have : (tm.setIfInBounds p c).getD n undef = tm.getD n undef := by
          rw [Array.getD_eq_getD_getElem?, Array.getD_eq_getD_getElem?, Array.getElem?_setIfInBounds_ne hn]
        rw [this]
        exact he n u e
    have := putL_ok (env := (p, v) :: env) (tm := tm.setIfInBounds p c) h2 he' (by simpa using hl) (fun q hq => by rw [Array.size_setIfInBounds]; exact hp q (by simp [hq]))
    exact ⟨this.1, by rw [this.2, Array.size_setIfInBounds]⟩

theorem zip_foldl (ps : List Nat) (vals : Array Value) (tm : Array Value) :
    (ps.toArray.zip vals).foldl (fun t (x : Nat × Value) => t.setIfInBounds x.1 x.2) tm = (ps.zip vals.toList).foldl (fun t x => t.setIfInBounds x.1 x.2) tm := by
  rw [← Array.foldl_toList, Array.toList_zip]

theorem rangesOf_n {nt : Nat} : ∀ {c : Code} {x : Nat × LCode}, x ∈ rangesOf nt c → x.2.n = nt := by
  intro c
  induction c with
  | seq a b iha ihb => intro x h; simp only [rangesOf, List.mem_append] at h; exact h.elim iha ihb
  | cond q a b iha ihb => intro x h; simp only [rangesOf, List.mem_append] at h; exact h.elim iha ihb
  | block id c ih => intro x h; exact ih h
  | loop c ih => intro x h; exact ih h
  | rangeFunc q ps a b iha ihb => intro x h; simp only [rangesOf, List.mem_singleton] at h; subst h; rfl
  | _ => intro x h; simp [rangesOf] at h

theorem rangesOf_dsts {nt : Nat} : ∀ {c : Code} {x : Nat × LCode}, dstsOk nt c = true → x ∈ rangesOf nt c → (∀ p ∈ x.2.ps, p < nt) ∧ dstsOk nt x.2.assign = true ∧ dstsOk nt x.2.body = true := by
  intro c
  induction c with
  | seq a b iha ihb => intro x hd h; simp only [rangesOf, List.mem_append] at h; simp only [dstsOk, Bool.and_eq_true] at hd; exact h.elim (iha hd.1) (ihb hd.2)
  | cond q a b iha ihb => intro x hd h; simp only [rangesOf, List.mem_append] at h; simp only [dstsOk, Bool.and_eq_true] at hd; exact h.elim (iha hd.1) (ihb hd.2)
  | block id c ih => intro x hd h; exact ih hd h
  | loop c ih => intro x hd h; exact ih hd h
  | rangeFunc q ps a b iha ihb =>
    intro x hd h
    simp only [rangesOf, List.mem_singleton] at h
    subst h
    simp only [dstsOk, Bool.and_eq_true, List.all_eq_true] at hd
    exact ⟨fun p hp => Nat.le_of_ble_eq_true (hd.1 p hp), hd.2.1, hd.2.2⟩
  | _ => intro x _ h; simp [rangesOf] at h

theorem rangesOf_draws {nt : Nat} : ∀ {c : Code} {x : Nat × LCode}, drawsOk c = true → x ∈ rangesOf nt c → drawsOk x.2.assign = true ∧ drawsOk x.2.body = true := by
  intro c
  induction c with
  | seq a b iha ihb => intro x hd h; simp only [rangesOf, List.mem_append] at h; simp only [drawsOk, Bool.and_eq_true] at hd; exact h.elim (iha hd.1) (ihb hd.2)
  | cond q a b iha ihb => intro x hd h; simp only [rangesOf, List.mem_append] at h; simp only [drawsOk, Bool.and_eq_true] at hd; exact h.elim (iha hd.1) (ihb hd.2)
  | block id c ih => intro x hd h; exact ih hd h
  | loop c ih => intro x hd h; exact ih hd h
  | rangeFunc q ps a b iha ihb =>
    intro x hd h
    simp only [rangesOf, List.mem_singleton] at h
    subst h
    simp only [drawsOk, Bool.and_eq_true] at hd
    exact hd
  | _ => intro x _ h; simp [rangesOf] at h

theorem rangesOf_loops {nt : Nat} : ∀ {c : Code} {x : Nat × LCode}, x ∈ rangesOf nt c → (∀ b ∈ loopsOf x.2.assign, b ∈ loopsOf c) ∧ (∀ b ∈ loopsOf x.2.body, b ∈ loopsOf c) := by
  intro c
  induction c with
  | seq a b iha ihb =>
    intro x h
    simp only [rangesOf, List.mem_append] at h
    simp only [loopsOf, List.mem_append]
    rcases h with h | h
    · exact ⟨fun b hb => .inl ((iha h).1 b hb), fun b hb => .inl ((iha h).2 b hb)⟩
    · exact ⟨fun b hb => .inr ((ihb h).1 b hb), fun b hb => .inr ((ihb h).2 b hb)⟩
  | cond q a b iha ihb =>
    intro x h
    simp only [rangesOf, List.mem_append] at h
    simp only [loopsOf, List.mem_append]
    rcases h with h | h
    · exact ⟨fun b hb => .inl ((iha h).1 b hb), fun b hb => .inl ((iha h).2 b hb)⟩
    · exact ⟨fun b hb => .inr ((ihb h).1 b hb), fun b hb => .inr ((ihb h).2 b hb)⟩
  | block id c ih => intro x h; exact ih h
  | loop c ih => intro x h; simp only [loopsOf, List.mem_cons]; exact ⟨fun b hb => .inr ((ih h).1 b hb), fun b hb => .inr ((ih h).2 b hb)⟩
  | rangeFunc q ps a b iha ihb =>
    intro x h
    simp only [rangesOf, List.mem_singleton] at h
    subst h
    simp only [loopsOf, List.mem_append]
    exact ⟨fun b hb => .inl hb, fun b hb => .inr hb⟩
  | _ => intro x h; simp [rangesOf] at h

theorem find_mem {α : Type} : ∀ {l : List (Nat × α)} {k : Nat} {v : α}, find l k = some v → (k, v) ∈ l
  | [], _, _, h => nomatch h
  | (j, u) :: l, k, v, h => by
    by_cases hj : j = k
    · subst hj; rw [find_cons_same] at h; cases h; simp
    · rw [find_cons_other _ _ hj] at h; simp [find_mem h]

theorem mem_find {α : Type} : ∀ {l : List (Nat × α)} {k : Nat} {v : α}, idsOk (l.map (·.1)) = true → (k, v) ∈ l → find l k = some v
  | [], _, _, _, h => nomatch h
  | (j, u) :: l, k, v, hi, h => by
    simp only [List.map_cons, idsOk, Bool.and_eq_true, Bool.not_eq_true'] at hi
    rcases List.mem_cons.1 h with e | h
    · cases e; rw [find_cons_same]
    · have hj : j ≠ k := by
        intro e
        subst e
        have : (l.map (·.1)).contains j = true := List.contains_iff_mem.2 (List.mem_map.2 ⟨(j, v), h, rfl⟩)
        rw [this] at hi
        cases hi.1
      rw [find_cons_other _ _ hj]
      exact mem_find hi.2 h

theorem isYld_ok {env : Env} {b : Nat} (h : isYld env b = true) : find env 0 = some (.yld b) := by
  unfold isYld at h
  split at h
  · rename_i c hc; rw [hc, Nat.eq_of_beq_eq_true h]
  · cases h

theorem yld_blk {g : Gh} {b l : Nat} {c : Value} (h : VR g (.yld b) c) (he : c = .func (.yield l) #[] #[]) : ∃ gb, g.bx b = some gb ∧ gb.isRow = false ∧ gb.blk = some l := by
  obtain ⟨gb, l', e1, e2, e3, e4⟩ := h
  rw [he] at e4
  simp only [List.cons.injEq, and_true, Value.func.injEq, Fn.yield.injEq] at e4
  subst e4
  exact ⟨gb, e1, e2, e3⟩
end
end Go.V
