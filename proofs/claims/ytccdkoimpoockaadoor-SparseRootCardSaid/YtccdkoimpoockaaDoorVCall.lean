/- A call of a function that is handed boxes: the rest of memory stays. -/
import Derived.Test.YtccdkoimpoockaaDoorVRowC
set_option linter.all false
set_option linter.unusedVariables false
set_option linter.unusedSectionVars false
set_option linter.unusedSimpArgs false
namespace Go.V
variable [Codes]

def kindOk : List (Nat × BSh) → List (Nat × BSh) → Bool
  | [], [] => true
  | (k, .row _ _) :: l, (j, .row _ _) :: m => Nat.beq k j && kindOk l m
  | (k, .var _) :: l, (j, .var _) :: m => Nat.beq k j && kindOk l m
  | _, _ => false

def CSpec.ok (c : CSpec) : Bool :=
  let ks := c.ins.map (·.1)
  c.args.all (fun x => x.2.ok ks) && c.ins.all (fun x => x.2.ok ks) && c.res.all (fun x => x.ok ks && (match x with | .cst v => v.okGs | .ty _ => true)) && c.outs.all (fun x => x.2.ok ks) && kindOk c.ins c.outs && idsOk ks

section
variable {P : Program} {C : Cfg}

theorem params_ok {g : Gh} : ∀ {args : List AV} {k : Nat} {vals : List Value}, VsR g args vals → ∀ n v, find (params k args) n = some v → ∃ i, n = k + i ∧ ∃ c, vals[i]? = some c ∧ VR g v c
  | [], _, _, _, _, _, h => nomatch h
  | _ :: _, _, [], h, _, _, _ => h.elim
  | a :: l, k, c :: vals, ⟨h1, h2⟩, n, v, h => by
    simp only [params] at h
    by_cases hn : k = n
    · subst hn
      rw [find_cons_same] at h
      cases h
      exact ⟨0, rfl, c, rfl, h1⟩
    · rw [find_cons_other _ _ hn] at h
      obtain ⟨i, e, c', h3, h4⟩ := params_ok h2 n v h
      exact ⟨i + 1, by omega, c', by simpa using h3, h4⟩


/-- What a function does that is handed boxes: those boxes may change, and their addresses, if they are variables, do not. -/
def CallOK (P : Program) (C : Cfg) (f : FuncId) (c : CSpec) : Prop :=
  ∀ (g : Gh) (w : World) (vals : Array Value) (xa : envDen c.args) (xb : bxsDen c.ins) y, GlobOK C g.fz → StR g { env := encEnv c.args xa, stk := [], bxs := encBxs c.ins xb } vals [] w → c.fn (xa, xb) = some y →
    Calls P f vals w fun e w' => ∃ cs g', e = .returned (resVal cs) ∧ VsR g' (encV c.res y.1) cs ∧ BxR g' (encBxs c.outs y.2) w' ∧ FzOK g' w' ∧ Tr g w g' w' ∧
      ∀ k gb, g.bx k = some gb → gb.isRow = false → ∃ gb', g'.bx k = some gb' ∧ gb'.isRow = false ∧ gb'.blk = gb.blk

/-- Some boxes' places from another picture. -/
def Gh.mix (g h : Gh) (l : List Nat) : Gh := ⟨h.fz, fun k => if k ∈ l then h.bx k else g.bx k⟩

theorem mem_rowKeys : ∀ {l : List (Nat × BSh)} {k : Nat}, k ∈ rowKeys l → k ∈ l.map (·.1)
  | (j, .row _ _) :: l, k, h => by
    simp only [rowKeys, List.mem_cons] at h
    simp only [List.map_cons, List.mem_cons]
    exact h.imp id mem_rowKeys
  | (j, .var _) :: l, k, h => by
    simp only [rowKeys] at h
    simp only [List.map_cons, List.mem_cons]
    exact .inr (mem_rowKeys h)
  | (j, .loop _ _ _ _) :: l, k, h => by
    simp only [rowKeys] at h
    simp only [List.map_cons, List.mem_cons]
    exact .inr (mem_rowKeys h)

theorem nodup_rowKeys : ∀ {l : List (Nat × BSh)}, idsOk (l.map (·.1)) = true → (rowKeys l).Nodup
  | [], _ => by simp [rowKeys]
  | (j, .row _ _) :: l, h => by
    simp only [List.map_cons, idsOk, Bool.and_eq_true, Bool.not_eq_true'] at h
    simp only [rowKeys, List.nodup_cons]
    refine ⟨fun hm => ?_, nodup_rowKeys h.2⟩
    have := List.contains_iff_mem.2 (mem_rowKeys hm)
    rw [this] at h
    cases h.1
  | (j, .var _) :: l, h => by
    simp only [List.map_cons, idsOk, Bool.and_eq_true, Bool.not_eq_true'] at h
    simp only [rowKeys]
    exact nodup_rowKeys h.2
  | (j, .loop _ _ _ _) :: l, h => by
    simp only [List.map_cons, idsOk, Bool.and_eq_true, Bool.not_eq_true'] at h
    simp only [rowKeys]
    exact nodup_rowKeys h.2

theorem mix_step {g h : Gh} {done : List Nat} {k : Nat} (hd : k ∉ done) (hk : ∀ gb, g.bx k = some gb → gb.isRow = true) : ExtBut (some k) (g.mix h done) (g.mix h (k :: done)) := by
  refine ⟨fun _ _ _ h => h, fun j a hj e => ?_, fun j a hj e => ?_⟩
  · have hne : j ≠ k := fun e => hj (by rw [e])
    simp only [Gh.mix] at e ⊢
    by_cases hd : j ∈ done
    · rw [if_pos hd] at e; rw [if_pos (List.mem_cons_of_mem _ hd)]; exact e
    · rw [if_neg hd] at e; rw [if_neg (by simp [hne, hd])]; exact e
  · cases hj
    simp only [Gh.mix] at e
    rw [if_neg hd] at e
    exact hk a e

theorem staleAll_ok {g h : Gh} {tm : Array Value} {tms : List (Array Value)} :
    ∀ (l done : List Nat) {s : St}, (∀ k ∈ l, ∀ gb, g.bx k = some gb → gb.isRow = true) → l.Nodup → (∀ k ∈ l, k ∉ done) → EnvR (g.mix h done) s.env tm → StkR (g.mix h done) s.stk tms →
      EnvR (g.mix h (l.reverse ++ done)) (staleAll l s).env tm ∧ StkR (g.mix h (l.reverse ++ done)) (staleAll l s).stk tms
  | [], done, s, _, _, _, h1, h2 => ⟨h1, h2⟩
  | k :: l, done, s, hk, hn, hd, h1, h2 => by
    have hx := mix_step (h := h) (hd k (by simp)) (hk k (by simp))
    have hn' := List.nodup_cons.1 hn
    have := staleAll_ok (h := h) l (k :: done) (s := { env := staleE k s.env, stk := staleS k s.stk, bxs := staleB k s.bxs }) (fun j hj => hk j (by simp [hj])) hn'.2
      (fun j hj hm => by
        rcases List.mem_cons.1 hm with rfl | hm
        · exact hn'.1 hj
        · exact hd j (by simp [hj]) hm) (h1.stale hx) (h2.stale hx)
    simp only [List.reverse_cons, List.append_assoc, List.singleton_append]
    exact this

/-- The boxes that stay. -/
theorem staleAll_box {g h : Gh} {w : World} : ∀ (l done : List Nat) {s : St} {j : Nat} {b : Box} {gb : Gb}, (∀ k ∈ l, ∀ gb, g.bx k = some gb → gb.isRow = true) → l.Nodup → (∀ k ∈ l, k ∉ done) → find (staleAll l s).bxs j = some b →
    ∃ b0, find s.bxs j = some b0 ∧ (BoxR (g.mix h done) b0 gb w → BoxR (g.mix h (l.reverse ++ done)) b gb w)
  | [], done, s, j, b, gb, _, _, _, hb => ⟨b, hb, fun h => h⟩
  | k :: l, done, s, j, b, gb, hk, hn, hd, hb => by
    have hx := mix_step (h := h) (hd k (by simp)) (hk k (by simp))
    have hn' := List.nodup_cons.1 hn
    obtain ⟨b1, h1, h2⟩ := staleAll_box (h := h) (w := w) (gb := gb) l (k :: done) (s := { env := staleE k s.env, stk := staleS k s.stk, bxs := staleB k s.bxs }) (fun j hj => hk j (by simp [hj])) hn'.2
      (fun j hj hm => by
        rcases List.mem_cons.1 hm with rfl | hm
        · exact hn'.1 hj
        · exact hd j (by simp [hj]) hm) hb
    simp only [find_staleB] at h1
    rw [Option.map_eq_some_iff] at h1
    obtain ⟨b0, h3, rfl⟩ := h1
    refine ⟨b0, h3, fun hbx => ?_⟩
    simp only [List.reverse_cons, List.append_assoc, List.singleton_append]
    exact h2 (hbx.extStale hx (fun _ _ _ => rfl) (fun _ _ _ _ h => h))

theorem staleAll_some : ∀ (l : List Nat) {s : St} {j : Nat}, (find (staleAll l s).bxs j).isSome = (find s.bxs j).isSome
  | [], _, _ => rfl
  | k :: l, s, j => by
    simp only [staleAll]
    rw [staleAll_some l]
    simp only [find_staleB, Option.isSome_map]

theorem find_setAll : ∀ {l : Bxs} {b : Bxs} {k : Nat}, find (setAll l b) k = match find l k with | some x => some x | none => find b k
  | [], b, k => rfl
  | (j, y) :: l, b, k => by
    simp only [setAll]
    by_cases hj : j = k
    · subst hj; rw [find_setB_same]; simp [find]
    · rw [find_setB_other _ _ hj, find_setAll]; simp [find, beq_false hj]

theorem vsR_tsR {g : Gh} : ∀ {vs : List AV} {cs : List Value}, VsR g vs cs → vs.all AV.okGs = true → TsR g vs cs
  | [], [], _, _ => trivial
  | [], _ :: _, h, _ => h.elim
  | _ :: _, [], h, _ => h.elim
  | v :: vs, c :: cs, ⟨h1, h2⟩, hk => by
    simp only [List.all_cons, Bool.and_eq_true] at hk
    exact ⟨VR.vr1 hk.1 h1, vsR_tsR h2 hk.2⟩

theorem tup1_ok {g : Gh} {vs : List AV} {cs : List Value} (h : VsR g vs cs) (hk : vs.all AV.okGs = true) : VR g (tup1 vs) (resVal cs) := by
  match vs, cs, h, hk with
  | [], [], _, _ => exact ⟨#[], rfl, trivial⟩
  | [v], [c], h, _ => exact h.1
  | v :: u :: vs, c :: d :: cs, h, hk => exact ⟨_, rfl, vsR_tsR h hk⟩
  | [], _ :: _, h, _ => exact h.elim
  | _ :: _, [], h, _ => exact h.elim
  | [_], _ :: _ :: _, h, _ => exact h.2.elim
  | _ :: _ :: _, [_], h, _ => exact h.2.elim

/-! ### From the callee's picture to the caller's -/
structure Bridge (g2 g3 : Gh) (ks rk : List Nat) : Prop where
  old : ∀ k ∈ ks, k ∉ rk → ∀ gb3, g3.bx k = some gb3 → gb3.isRow = false ∧ ∃ gb2, g2.bx k = some gb2 ∧ gb2.isRow = false ∧ gb2.blk = gb3.blk

theorem Bridge.ptr {g2 g3 : Gh} {ks rk : List Nat} (hB : Bridge g2 g3 ks rk) {k : Nat} (hk : k ∈ ks) {gb : Gb} (h : g3.bx k = some gb) (hr : gb.isRow = false) : ∃ gb', (g2.mix g3 rk).bx k = some gb' ∧ gb'.isRow = false ∧ gb'.blk = gb.blk := by
  by_cases hm : k ∈ rk
  · exact ⟨gb, by simp only [Gh.mix]; rw [if_pos hm]; exact h, hr, rfl⟩
  · obtain ⟨_, gb2, e1, e2, e3⟩ := hB.old k hk hm gb h
    exact ⟨gb2, by simp only [Gh.mix]; rw [if_neg hm]; exact e1, e2, e3⟩

theorem Bridge.caps {g2 g3 : Gh} {ks rk : List Nat} (hB : Bridge g2 g3 ks rk) : ∀ {l : List AV} {vs : List Value}, (l.all fun | .ptr b _ _ => ks.contains b | _ => false) = true → CapsR g3 l vs → CapsR (g2.mix g3 rk) l vs
  | [], [], _, h => h
  | [], _ :: _, _, h => h.elim
  | _ :: _, [], _, h => h.elim
  | a :: l, v :: vs, hk, ⟨h1, h2⟩ => by
    simp only [List.all_cons, Bool.and_eq_true] at hk
    refine ⟨?_, hB.caps hk.2 h2⟩
    unfold CapR at h1 ⊢
    split at h1
    · obtain ⟨gb, blk, e1, e2, e3, e4⟩ := h1
      obtain ⟨gb', k1, k2, k3⟩ := hB.ptr (List.contains_iff_mem.1 hk.1) e1 e2
      exact ⟨gb', blk, k1, k2, by rw [k3]; exact e3, e4⟩
    · exact h1.elim

theorem Bridge.gr {g2 g3 : Gh} {ks rk : List Nat} (hB : Bridge g2 g3 ks rk) {v : AV} (hk : v.keysIn ks = true) {cs : List Value} (h : GR g3 v cs) : GR (g2.mix g3 rk) v cs := by
  cases v <;> simp only [AV.keysIn, Bool.false_eq_true] at hk
  case ptr b off p =>
    obtain ⟨gb, blk, e1, e2, e3, r⟩ := h
    obtain ⟨gb', k1, k2, k3⟩ := hB.ptr (List.contains_iff_mem.1 hk) e1 e2
    exact ⟨gb', blk, k1, k2, by rw [k3]; exact e3, r⟩
  case row b w =>
    obtain ⟨gb, v, e1, e2, r⟩ := h
    have hm : b ∈ rk := by
      refine Classical.byContradiction fun hm => ?_
      have := (hB.old b (List.contains_iff_mem.1 hk) hm gb e1).1
      rw [e2] at this
      cases this
    exact ⟨gb, v, by simp only [Gh.mix]; rw [if_pos hm]; exact e1, e2, r⟩
  case fn f l => obtain ⟨vs, e, h⟩ := h; exact ⟨vs, e, hB.caps hk h⟩
  case yld b =>
    obtain ⟨gb, l, e1, e2, e3, r⟩ := h
    obtain ⟨gb', k1, k2, k3⟩ := hB.ptr (List.contains_iff_mem.1 hk) e1 e2
    exact ⟨gb', l, k1, k2, by rw [k3]; exact e3, r⟩
  case tup l => exact h.elim
  all_goals exact h

theorem Bridge.vr {g2 g3 : Gh} {ks rk : List Nat} (hB : Bridge g2 g3 ks rk) {v : AV} (hk : v.keysIn ks = true) {c : Value} (h : VR g3 v c) : VR (g2.mix g3 rk) v c := by
  cases v <;> simp only [AV.keysIn, Bool.false_eq_true] at hk
  case tup l =>
    cases l with
    | nil => exact vr_nil h
    | cons a l => simp [AV.keysIn] at hk
  case ptr b off p => exact hB.gr (v := .ptr b off p) hk h
  case row b w => exact hB.gr (v := .row b w) hk h
  case yld b => exact hB.gr (v := .yld b) hk h
  case fn f l => exact hB.gr (v := .fn f l) hk h
  all_goals exact h

theorem Bridge.gs {g2 g3 : Gh} {ks rk : List Nat} (hB : Bridge g2 g3 ks rk) : ∀ {l : List Sh} {x : shDen l} {cs : List Value}, l.all (Sh.ok ks) = true → GsR g3 (encSh l x) cs → GsR (g2.mix g3 rk) (encSh l x) cs
  | [], _, _, _, h => h
  | .ty T :: l, x, cs, hk, ⟨c1, c2, e, h1, h2⟩ => by
    simp only [List.all_cons, Bool.and_eq_true] at hk
    exact ⟨c1, c2, e, h1, hB.gs hk.2 h2⟩
  | .cst v :: l, x, cs, hk, ⟨c1, c2, e, h1, h2⟩ => by
    simp only [List.all_cons, Bool.and_eq_true] at hk
    exact ⟨c1, c2, e, hB.gr hk.1 h1, hB.gs hk.2 h2⟩

theorem Bridge.vs {g2 g3 : Gh} {ks rk : List Nat} (hB : Bridge g2 g3 ks rk) : ∀ {l : List Sh} {x : shDen l} {cs : List Value}, (l.all fun x => x.ok ks && (match x with | .cst v => v.okGs | .ty _ => true)) = true → VsR g3 (encV l x) cs →
    VsR (g2.mix g3 rk) (encV l x) cs ∧ (encV l x).all AV.okGs = true
  | [], _, [], _, _ => ⟨trivial, rfl⟩
  | [], _, _ :: _, _, h => h.elim
  | .ty T :: l, x, c :: cs, hk, ⟨h1, h2⟩ => by
    simp only [List.all_cons, Bool.and_eq_true] at hk
    obtain ⟨k1, k2⟩ := hB.vs hk.2 h2
    have hav : (T.av x.1).okGs = true := by cases T <;> rfl
    refine ⟨⟨(TV.vr (g := g2.mix g3 rk) (tv_of_vr (g := g3) (VR.vr1 hav h1))).vr', k1⟩, ?_⟩
    simp only [encV, List.all_cons, Bool.and_eq_true]
    exact ⟨hav, k2⟩
  | .ty T :: l, x, [], _, h => h.elim
  | .cst v :: l, x, c :: cs, hk, ⟨h1, h2⟩ => by
    simp only [List.all_cons, Bool.and_eq_true] at hk
    obtain ⟨k1, k2⟩ := hB.vs hk.2 h2
    refine ⟨⟨hB.vr hk.1.1 h1, k1⟩, ?_⟩
    simp only [encV, List.all_cons, Bool.and_eq_true]
    exact ⟨hk.1.2, k2⟩
  | .cst v :: l, x, [], _, h => h.elim

/-- What stands in a box of some shape. -/
theorem find_enc : ∀ {l : List (Nat × BSh)} {x : bxsDen l} {k : Nat} {b : Box}, find (encBxs l x) k = some b → (∃ T fz y, b = .row T fz y ∧ k ∈ rowKeys l) ∨ (∃ sh y, b = .var (encSh sh y) ∧ (k, BSh.var sh) ∈ l) ∨ (∃ u f i e y, b = .loop u f i (encEnv e y) ∧ (k, BSh.loop u f i e) ∈ l)
  | [], _, _, _, h => nomatch h
  | (n, .var gs) :: l, x, k, b, h => by
    by_cases hn : n = k
    · subst hn
      simp only [encBxs, find_cons_same, Option.some.injEq] at h
      exact .inr (.inl ⟨gs, x.1, h.symm, by simp⟩)
    · simp only [encBxs, find_cons_other _ _ hn] at h
      rcases find_enc h with ⟨T, fz, y, e, m⟩ | ⟨sh, y, e, m⟩ | ⟨u, f, i, d, y, e, m⟩
      · exact .inl ⟨T, fz, y, e, by simpa [rowKeys] using m⟩
      · exact .inr (.inl ⟨sh, y, e, by simp [m]⟩)
      · exact .inr (.inr ⟨u, f, i, d, y, e, by simp [m]⟩)
  | (n, .row T fz) :: l, x, k, b, h => by
    by_cases hn : n = k
    · subst hn
      simp only [encBxs, find_cons_same, Option.some.injEq] at h
      exact .inl ⟨T, fz, x.1, h.symm, by simp [rowKeys]⟩
    · simp only [encBxs, find_cons_other _ _ hn] at h
      rcases find_enc h with ⟨T, fz, y, e, m⟩ | ⟨sh, y, e, m⟩ | ⟨u, f, i, d, y, e, m⟩
      · exact .inl ⟨T, fz, y, e, by simp [rowKeys, m]⟩
      · exact .inr (.inl ⟨sh, y, e, by simp [m]⟩)
      · exact .inr (.inr ⟨u, f, i, d, y, e, by simp [m]⟩)
  | (n, .loop u f i e) :: l, x, k, b, h => by
    by_cases hn : n = k
    · subst hn
      simp only [encBxs, find_cons_same, Option.some.injEq] at h
      exact .inr (.inr ⟨u, f, i, e, x.1, h.symm, by simp⟩)
    · simp only [encBxs, find_cons_other _ _ hn] at h
      rcases find_enc h with ⟨T, fz, y, e, m⟩ | ⟨sh, y, e, m⟩ | ⟨u, f, i, d, y, e, m⟩
      · exact .inl ⟨T, fz, y, e, by simpa [rowKeys] using m⟩
      · exact .inr (.inl ⟨sh, y, e, by simp [m]⟩)
      · exact .inr (.inr ⟨u, f, i, d, y, e, by simp [m]⟩)

/-- No loops' records are handed down. -/
theorem kindOk_noLoop : ∀ {l m : List (Nat × BSh)}, kindOk l m = true → (∀ k u f i e, (k, BSh.loop u f i e) ∉ l) ∧ ∀ k u f i e, (k, BSh.loop u f i e) ∉ m
  | [], [], _ => ⟨(fun _ _ _ _ _ h => nomatch h), (fun _ _ _ _ _ h => nomatch h)⟩
  | (k, .row _ _) :: l, (j, .row _ _) :: m, h => by
    simp only [kindOk, Bool.and_eq_true] at h
    obtain ⟨h1, h2⟩ := kindOk_noLoop h.2
    exact ⟨fun k u f i e hm => by simp at hm; exact h1 _ _ _ _ _ hm, fun k u f i e hm => by simp at hm; exact h2 _ _ _ _ _ hm⟩
  | (k, .var _) :: l, (j, .var _) :: m, h => by
    simp only [kindOk, Bool.and_eq_true] at h
    obtain ⟨h1, h2⟩ := kindOk_noLoop h.2
    exact ⟨fun k u f i e hm => by simp at hm; exact h1 _ _ _ _ _ hm, fun k u f i e hm => by simp at hm; exact h2 _ _ _ _ _ hm⟩
  | [], _ :: _, h => by simp [kindOk] at h
  | (_, .row _ _) :: _, [], h => by simp [kindOk] at h
  | (_, .var _) :: _, [], h => by simp [kindOk] at h
  | (_, .row _ _) :: _, (_, .var _) :: _, h => by simp [kindOk] at h
  | (_, .var _) :: _, (_, .row _ _) :: _, h => by simp [kindOk] at h
  | (_, .loop ..) :: _, _, h => by simp [kindOk] at h
  | (_, .row _ _) :: _, (_, .loop ..) :: _, h => by simp [kindOk] at h
  | (_, .var _) :: _, (_, .loop ..) :: _, h => by simp [kindOk] at h

theorem rowKeys_find : ∀ {l : List (Nat × BSh)} {x : bxsDen l} {k : Nat}, idsOk (l.map (·.1)) = true → k ∈ rowKeys l → ∃ T fz y, find (encBxs l x) k = some (.row T fz y)
  | (n, .row T fz) :: l, x, k, hi, h => by
    simp only [List.map_cons, idsOk, Bool.and_eq_true, Bool.not_eq_true'] at hi
    by_cases hn : n = k
    · subst hn; exact ⟨T, fz, x.1, by simp only [encBxs, find_cons_same]⟩
    · simp only [rowKeys, List.mem_cons] at h
      obtain ⟨T', fz', y, e⟩ := rowKeys_find (x := x.2) hi.2 (h.resolve_left (Ne.symm hn))
      exact ⟨T', fz', y, by simp only [encBxs, find_cons_other _ _ hn]; exact e⟩
  | (n, .var gs) :: l, x, k, hi, h => by
    simp only [List.map_cons, idsOk, Bool.and_eq_true, Bool.not_eq_true'] at hi
    simp only [rowKeys] at h
    have hn : n ≠ k := fun e => by
      subst e
      rw [List.contains_iff_mem.2 (mem_rowKeys h)] at hi
      cases hi.1
    obtain ⟨T', fz', y, e⟩ := rowKeys_find (x := x.2) hi.2 h
    exact ⟨T', fz', y, by simp only [encBxs, find_cons_other _ _ hn]; exact e⟩
  | (n, .loop u f i e0) :: l, x, k, hi, h => by
    simp only [List.map_cons, idsOk, Bool.and_eq_true, Bool.not_eq_true'] at hi
    simp only [rowKeys] at h
    have hn : n ≠ k := fun e => by
      subst e
      rw [List.contains_iff_mem.2 (mem_rowKeys h)] at hi
      cases hi.1
    obtain ⟨T', fz', y, e⟩ := rowKeys_find (x := x.2) hi.2 h
    exact ⟨T', fz', y, by simp only [encBxs, find_cons_other _ _ hn]; exact e⟩

theorem kindOk_keys : ∀ {l m : List (Nat × BSh)}, kindOk l m = true → l.map (·.1) = m.map (·.1) ∧ rowKeys l = rowKeys m
  | [], [], _ => ⟨rfl, rfl⟩
  | [], _ :: _, h => by simp [kindOk] at h
  | (_, .row _ _) :: _, [], h => by simp [kindOk] at h
  | (_, .var _) :: _, [], h => by simp [kindOk] at h
  | (k, .row _ _) :: l, (j, .row _ _) :: m, h => by
    simp only [kindOk, Bool.and_eq_true] at h
    obtain ⟨h1, h2⟩ := kindOk_keys h.2
    have := Nat.eq_of_beq_eq_true h.1
    simp [rowKeys, h1, h2, this]
  | (k, .var _) :: l, (j, .var _) :: m, h => by
    simp only [kindOk, Bool.and_eq_true] at h
    obtain ⟨h1, h2⟩ := kindOk_keys h.2
    have := Nat.eq_of_beq_eq_true h.1
    simp [rowKeys, h1, h2, this]
  | (_, .row _ _) :: _, (_, .var _) :: _, h => by simp [kindOk] at h
  | (_, .var _) :: _, (_, .row _ _) :: _, h => by simp [kindOk] at h
  | (_, .loop ..) :: _, _, h => by simp [kindOk] at h
  | (_, .row _ _) :: _, (_, .loop ..) :: _, h => by simp [kindOk] at h
  | (_, .var _) :: _, (_, .loop ..) :: _, h => by simp [kindOk] at h

theorem callS_ok {R : Type} {f : FuncId} {c : CSpec} (hc : CallOK P C f c) (hok : c.ok = true) {g : Gh} {s : St} {tm : Array Value} {tms : List (Array Value)} {w : World} (hs : StR g s tm tms w) (hG : GlobOK C g.fz) {args : List AV} {K : AV → St → Option R} {r : R}
    (h : callS c args s K = some r) {vals : Array Value} (hv : VsR g args vals.toList) : CallsTo P f vals g tm tms w K r := by
  simp only [CSpec.ok, Bool.and_eq_true] at hok
  obtain ⟨⟨⟨⟨⟨a1, a2⟩, a3⟩, a4⟩, a5⟩, a6⟩ := hok
  obtain ⟨hkeys, hrows⟩ := kindOk_keys a5
  unfold callS at h
  split at h
  · rename_i s1 hth
    have hs0 : StR g { env := params 0 args, stk := s.env :: s.stk, bxs := s.bxs } vals (tm :: tms) w := by
      refine ⟨fun n v e => ?_, ⟨hs.env, hs.stk⟩, hs.bxs, hs.fz⟩
      obtain ⟨i, e1, cv, h1, h2⟩ := params_ok hv n v e
      have : i = n := by omega
      subst this
      rw [Array.getD_eq_getD_getElem?, ← Array.getElem?_toList, h1]
      exact h2
    obtain ⟨g1, hs1, t1⟩ := thawAll_ok hs0 hth
    simp only at h
    obtain ⟨fz2, hs2, t2⟩ := StR.frzL (tyVals s1.env c.args ++ tyValsB s1.bxs c.ins) hs1
    generalize hbx : frzL s1.bxs (tyVals s1.env c.args ++ tyValsB s1.bxs c.ins) = bx at h hs2
    obtain ⟨g2, hg2⟩ : ∃ g2 : Gh, g2 = ⟨fz2, g1.bx⟩ := ⟨_, rfl⟩
    rw [← hg2] at hs2 t2
    obtain ⟨xa, h1, he⟩ := decEnv_ok hs2.bxs.w hs2.fz hs2.env a1 h
    obtain ⟨xb, h2, hb⟩ := decBxs_ok hs2.fz hs2.bxs.w a2 h1
    rw [Option.bind_eq_some_iff] at h2
    obtain ⟨y, hy, hK⟩ := h2
    -- the boxes that are handed down
    obtain ⟨ks, hks⟩ : ∃ ks, ks = c.ins.map (·.1) := ⟨_, rfl⟩
    obtain ⟨rk, hrk⟩ : ∃ rk, rk = rowKeys c.ins := ⟨_, rfl⟩
    rw [← hks] at he hb a1 a2 a3 a4 a6
    have kin : ∀ {k b}, find (encBxs c.ins xb) k = some b → k ∈ ks := fun e => by rw [hks]; exact find_encBxs_mem e
    have hb3 : BxR (g2.keep ks) (encBxs c.ins xb) w := by
      refine ⟨?_, ?_, ?_⟩
      · intro k b e
        obtain ⟨gb, e1, e2⟩ := hb k b e
        exact ⟨gb, by rw [keep_in _ (List.contains_iff_mem.2 (kin e))]; exact e1, e2⟩
      · intro k gb e
        simp only [Gh.keep] at e
        split at e
        · rename_i hk
          exact find_encBxs (by rw [← hks]; exact hk)
        · cases e
      · intro k j a b blk hne e1 e2
        simp only [Gh.keep] at e1 e2
        split at e1
        · split at e2
          · exact hs2.bxs.sep k j a b blk hne e1 e2
          · cases e2
        · cases e1
    have hs3 : StR (g2.keep ks) { env := encEnv c.args xa, stk := [], bxs := encBxs c.ins xb } vals [] w := ⟨he, trivial, hb3, hs2.fz⟩
    have hfz2 : ∀ b o v, g.fz b o = some v → g2.fz b o = some v := fun b o v e => t2.fz b o v (t1.fz b o v e)
    refine Calls.mono (hc (g2.keep ks) w vals xa xb y (hG.mono hfz2) hs3 hy) ?_
    rintro e w' ⟨cs, g3, rfl, hv3, hb4, hf3, t3, hvar⟩
    cases hst : s1.stk with
    | nil => rw [hst] at hK; cases hK
    | cons env stk =>
      rw [hst] at hK
      simp only at hK
      rw [← hrk] at hK
      have hst2 := hs2.stk
      simp only [hst] at hst2
      have hfz3 : ∀ b o v, g2.fz b o = some v → g3.fz b o = some v := t3.fz
      have hnd : rk.Nodup := by rw [hrk]; exact nodup_rowKeys (by rw [← hks]; exact a6)
      have inrow : ∀ k ∈ rk, ∀ gb, g2.bx k = some gb → gb.isRow = true := by
        intro k hk gb e
        obtain ⟨T, fz, l, hf⟩ := rowKeys_find (l := c.ins) (x := xb) (by rw [← hks]; exact a6) (by rw [← hrk]; exact hk)
        obtain ⟨gb', e1, e2⟩ := hb k _ hf
        rw [e] at e1
        cases e1
        exact e2.1
      have rkks : ∀ k ∈ rk, k ∈ ks := fun k hk => by rw [hks]; exact mem_rowKeys (by rw [← hrk]; exact hk)
      -- variables keep their places
      have invar : ∀ k ∈ ks, k ∉ rk → ∃ gb, g2.bx k = some gb ∧ gb.isRow = false ∧ gb.own = true ∧ ∃ gb3, g3.bx k = some gb3 ∧ gb3.isRow = false ∧ gb3.blk = gb.blk := by
        intro k hk hkr
        have hsome := find_encBxs (l := c.ins) (x := xb) (k := k) (by rw [← hks]; exact hk)
        obtain ⟨b, hbk⟩ := Option.isSome_iff_exists.1 hsome
        rcases find_enc hbk with ⟨T, fz, l, _, m⟩ | ⟨sh, l, rfl, _⟩ | ⟨u, f, i, d, l, _, m⟩
        rotate_left 2
        · exact ((kindOk_noLoop a5).1 _ _ _ _ _ m).elim
        · exact absurd (by rw [hrk]; exact m) hkr
        · obtain ⟨gb, e1, e2⟩ := hb k _ hbk
          obtain ⟨k1, k2, _⟩ := e2
          obtain ⟨gb3, e3, e4, e5⟩ := hvar k gb (by rw [keep_in _ (List.contains_iff_mem.2 hk)]; exact e1) k1
          exact ⟨gb, e1, k1, k2, gb3, e3, e4, e5⟩
      have hB : Bridge g2 g3 ks rk := ⟨fun k hk hkr gb3 e => by
        obtain ⟨gb, e1, e2, _, gb3', e3, e4, e5⟩ := invar k hk hkr
        rw [e] at e3
        cases e3
        exact ⟨e4, gb, e1, e2, e5.symm⟩⟩
      have hx0 : ExtBut none g2 (g2.mix g3 []) := ⟨hfz3, fun k gb _ e => by simp only [Gh.mix]; rw [if_neg (by simp)]; exact e, fun _ _ h _ => nomatch h⟩
      have hmix : ∀ k, (g2.mix g3 (rk.reverse ++ [])).bx k = (g2.mix g3 rk).bx k := fun k => by simp only [Gh.mix, List.append_nil, List.mem_reverse]
      have hg4 : g2.mix g3 (rk.reverse ++ []) = g2.mix g3 rk := by
        have : (g2.mix g3 (rk.reverse ++ [])).bx = (g2.mix g3 rk).bx := funext hmix
        unfold Gh.mix at this ⊢
        simp only at this
        rw [this]
      obtain ⟨henv, hstk⟩ := staleAll_ok (g := g2) (h := g3) rk [] (s := { env := env, stk := stk, bxs := bx }) inrow hnd (fun _ _ => by simp) (hst2.1.grow hx0) (hst2.2.grow hx0)
      rw [hg4] at henv hstk
      obtain ⟨hvs, hall⟩ := hB.vs a3 hv3
      have notown : ∀ k gb blk, k ∉ ks → g2.bx k = some gb → gb.blk = some blk → gb.own = true → ¬ owned (g2.keep ks) blk := by
        rintro k gb blk hk e1 e2 e3 ⟨j, gj, f1, f2, f3⟩
        simp only [Gh.keep] at f1
        split at f1
        · rename_i hj
          exact hs2.bxs.sep j k gj gb blk (fun e => hk (by rw [← e]; exact hj)) f1 e1 f2 f3 e2 e3
        · cases f1
      have hsize : ∀ k gb blk, g2.bx k = some gb → gb.blk = some blk → gb.own = true → blk < w.heap.size := fun k gb blk e1 e2 e3 => hs2.bxs.lt ⟨k, gb, e1, e2, e3⟩
      refine ⟨_, _, _, g2.mix g3 rk, rfl, hK, tup1_ok hvs hall, ⟨henv, hstk, ⟨?_, ?_, ?_⟩, hf3⟩, t1.trans (t2.trans ⟨t3.os, t3.tape, t3.output, t3.size, hfz3, ?_, ?_, ?_⟩)⟩
      · -- the boxes
        intro k b e
        simp only [find_setAll] at e
        split at e
        · rename_i x hx
          cases e
          have hkk : k ∈ ks := by rw [hks, hkeys]; exact find_encBxs_mem hx
          obtain ⟨gb3, e1, e2⟩ := hb4.box k _ hx
          rcases find_enc hx with ⟨T, fz, l, rfl, m⟩ | ⟨sh, l, rfl, m⟩ | ⟨u, f, i, d, l, _, m⟩
          rotate_left 2
          · exact ((kindOk_noLoop a5).2 _ _ _ _ _ m).elim
          · have hkr : k ∈ rk := by rw [hrk, hrows]; exact m
            exact ⟨gb3, by simp only [Gh.mix]; rw [if_pos hkr]; exact e1, boxR_fzSame rfl e2⟩
          · have hkr : k ∉ rk := by
              intro hkr
              rw [hrk, hrows] at hkr
              obtain ⟨T, fz, l', hf⟩ := rowKeys_find (l := c.outs) (x := y.2) (by rw [← hkeys, ← hks]; exact a6) hkr
              rw [hx] at hf
              cases hf
            obtain ⟨gb, f1, f2, f3, gb3', f4, f5, f6⟩ := invar k hkk hkr
            rw [e1] at f4
            cases f4
            obtain ⟨_, _, blk, cells, p3, p4, p5, p6⟩ := e2
            refine ⟨gb, by simp only [Gh.mix]; rw [if_neg hkr]; exact f1, f2, f3, blk, cells, by rw [← f6]; exact p3, p4, ?_, p6⟩
            exact hB.gs (List.all_eq_true.1 a4 _ m) p5
        · rename_i hx
          have hkk : k ∉ ks := by
            intro hk
            have := find_encBxs (l := c.outs) (x := y.2) (k := k) (by rw [← hkeys, ← hks]; exact hk)
            rw [hx] at this
            cases this
          have hkr : k ∉ rk := fun hk => hkk (rkks k hk)
          have hbs : (find bx k).isSome = true := by
            have := staleAll_some rk (s := { env := env, stk := stk, bxs := bx }) (j := k)
            rw [e] at this
            exact this.symm
          obtain ⟨b0', hb0'⟩ := Option.isSome_iff_exists.1 hbs
          obtain ⟨gb, e1, e2⟩ := hs2.bxs.box k b0' hb0'
          obtain ⟨b0, hb0, himp⟩ := staleAll_box (g := g2) (h := g3) (w := w') (gb := gb) rk [] (s := { env := env, stk := stk, bxs := bx }) inrow hnd (fun _ _ => by simp) e
          simp only [hb0', Option.some.injEq] at hb0
          subst hb0
          refine ⟨gb, by simp only [Gh.mix]; rw [if_neg hkr]; exact e1, ?_⟩
          rw [← hg4]
          refine himp (e2.ext hx0 (fun blk p1 p2 => ?_) (fun blk p1 p2 o p3 => ?_) ?_)
          · exact t3.block blk (hsize k gb blk e1 p1 p2) (notown k gb blk hkk e1 p1 p2)
          · cases hz : (g2.mix g3 []).fz blk o with
            | none => rfl
            | some v =>
              have hz' : g3.fz blk o = some v := hz
              rcases t3.fzNew blk o (by rw [hz']; simp) with q | q | q
              · exact absurd p3 q
              · have := hsize k gb blk e1 p1 p2; omega
              · exact (notown k gb blk hkk e1 p1 p2 q).elim
          · exact boxClear_none _
      · intro k gb e
        simp only [find_setAll]
        by_cases hkk : k ∈ ks
        · have := find_encBxs (l := c.outs) (x := y.2) (k := k) (by rw [← hkeys, ← hks]; exact hkk)
          obtain ⟨x, hx⟩ := Option.isSome_iff_exists.1 this
          rw [hx]
          rfl
        · have hkr : k ∉ rk := fun hk => hkk (rkks k hk)
          simp only [Gh.mix] at e
          rw [if_neg hkr] at e
          have h5 := hs2.bxs.dom k gb e
          split
          · rfl
          · rw [staleAll_some]; exact h5
      · -- apart
        have cross : ∀ k j a b blk, k ∈ rk → j ∉ rk → g3.bx k = some a → g2.bx j = some b → a.blk = some blk → a.own = true → b.blk = some blk → b.own = true → False := by
          intro k j a b blk hk hj e1 e2 p1 p2 p3 p4
          by_cases hjk : j ∈ ks
          · obtain ⟨gb, f1, f2, f3, gb3, f4, f5, f6⟩ := invar j hjk hj
            rw [e2] at f1
            cases f1
            obtain ⟨x, hx⟩ := Option.isSome_iff_exists.1 (hb4.dom j gb3 f4)
            obtain ⟨gb3', f7, f8⟩ := hb4.box j x hx
            rw [f4] at f7
            cases f7
            have hown : gb3.own = true := by
              rcases find_enc hx with ⟨T, fz, l, rfl, m⟩ | ⟨sh, l, rfl, m⟩ | ⟨u, f, i, d, l, _, m⟩
              rotate_left 2
              · exact ((kindOk_noLoop a5).2 _ _ _ _ _ m).elim
              · exact absurd (by rw [hrk, hrows]; exact m) hj
              · exact f8.2.1
            exact hb4.sep k j a gb3 blk (fun e => hj (by rw [← e]; exact hk)) e1 f4 p1 p2 (by rw [f6]; exact p3) hown
          · rcases t3.own blk ⟨k, a, e1, p1, p2⟩ with q | q
            · exact notown j b blk hjk e2 p3 p4 q
            · have := hsize j b blk e2 p3 p4
              omega
        intro k j a b blk hne e1 e2 p1 p2 p3 p4
        simp only [Gh.mix] at e1 e2
        by_cases hk : k ∈ rk
        · rw [if_pos hk] at e1
          by_cases hj : j ∈ rk
          · rw [if_pos hj] at e2
            exact hb4.sep k j a b blk hne e1 e2 p1 p2 p3 p4
          · rw [if_neg hj] at e2
            exact cross k j a b blk hk hj e1 e2 p1 p2 p3 p4
        · rw [if_neg hk] at e1
          by_cases hj : j ∈ rk
          · rw [if_pos hj] at e2
            exact cross j k b a blk hj hk e2 e1 p3 p4 p1 p2
          · rw [if_neg hj] at e2
            exact hs2.bxs.sep k j a b blk hne e1 e2 p1 p2 p3 p4
      · intro b o e
        rcases t3.fzNew b o e with q | q | ⟨k, gb, q1, q2, q3⟩
        · exact .inl q
        · exact .inr (.inl q)
        · simp only [Gh.keep] at q1
          split at q1
          · exact .inr (.inr ⟨k, gb, q1, q2, q3⟩)
          · cases q1
      · rintro b ⟨k, gb, e1, e2, e3⟩
        simp only [Gh.mix] at e1
        by_cases hk : k ∈ rk
        · rw [if_pos hk] at e1
          rcases t3.own b ⟨k, gb, e1, e2, e3⟩ with ⟨j, gj, q1, q2, q3⟩ | q
          · simp only [Gh.keep] at q1
            split at q1
            · exact .inl ⟨j, gj, q1, q2, q3⟩
            · cases q1
          · exact .inr q
        · rw [if_neg hk] at e1
          exact .inl ⟨k, gb, e1, e2, e3⟩
      · intro b hb' hno
        refine t3.block b hb' (fun ⟨k, gb, q1, q2, q3⟩ => hno ?_)
        simp only [Gh.keep] at q1
        split at q1
        · exact ⟨k, gb, q1, q2, q3⟩
        · cases q1
  · cases h

end
end Go.V
