/- append: the abstract operation is what the machine does. -/
import Derived.Test.YtccdkoimpoockaaDoorVOps8b
set_option linter.all false
set_option linter.unusedVariables false
set_option linter.unusedSectionVars false
set_option linter.unusedSimpArgs false
namespace Go.V
variable [Codes]
section
variable {C : Cfg} {P : Program}

theorem boxR_fzSame {g g' : Gh} (h : g'.fz = g.fz) {T : Ty} {fz : Bool} {l : List T.den} {gb : Gb} {w : World} (hb : BoxR g (.row T fz l) gb w) : BoxR g' (.row T fz l) gb w := by
  obtain ⟨h1, h2, h3, h4, h5⟩ := hb
  refine ⟨h1, h2, h3, h4, ?_⟩
  rw [h]
  exact h5

/-- A fresh row. -/
theorem fresh_ok {g : Gh} {s : St} {tm : Array Value} {tms : List (Array Value)} {w : World} (hs : StR g s tm tms w) {key : Nat} (hk : find s.bxs key = none) {S : Ty} {L : List S.den} {cs rest : List Value} {e : TypeId}
    (hL : Elems (CR g.fz S) L cs) {cap : Nat} (hc : L.length ≤ cap) (hr : rest.length = (cap - L.length) * S.size) :
    let gb : Gb := ⟨true, true, some w.heap.size, 0, L.length, cap, S.size⟩
    let w' := w.drew.alloc (.cells (cs ++ rest).toArray e)
    VR (g.put key gb) (.row key .whole) (.slice (some ⟨w.heap.size, 0, none⟩) L.length cap) ∧ StR (g.put key gb) ((Eff.add key (.row S false L)).apply s) tm tms w' ∧ Tr g w (g.put key gb) w' := by
  intro gb w'
  have hb := boxR_fzSame (g' := g.put key gb) rfl (newRow_ok (w := w) (e := e) hL hc hr (fun o => hs.fz.noneAt (Nat.le_refl _) o))
  obtain ⟨h1, h2, _⟩ := hs.add hk (grownBy_drew_alloc w _) (.row S false L) gb hb (fun blk e1 _ => by cases e1; exact Nat.le_refl _)
  exact ⟨⟨gb, _, Gh.put_same _ _ _, rfl, rfl, rfl⟩, h1, h2⟩

/-- A row seen through a window, as a row of its own. -/
theorem rowWin_ok {g : Gh} {w : World} {S : Ty} {fz : Bool} {l : List S.den} {gb : Gb} (k2 : BoxR g (.row S fz l) gb w) {wn : Win} {a0 : Option Addr} {c : Nat} (hw : WinR gb wn (.slice a0 (wn.app l).length c)) (_hf : FzOK g w)
    (hbf : (!fz || wn.isWhole) = true) (hnc : (wn.app l).length ≤ c) :
    ∃ gb', BoxR g (.row S fz (wn.app l)) gb' w ∧ (∀ blk, gb'.blk = some blk → gb'.own = true → gb.blk = some blk ∧ gb.own = true) ∧ WinR gb' .whole (.slice a0 (wn.app l).length c) := by
  cases wn with
  | whole => exact ⟨gb, k2, fun _ h1 h2 => ⟨h1, h2⟩, hw⟩
  | part off n full =>
    have hfz : fz = false := by cases fz <;> first | rfl | (simp [Win.isWhole] at hbf)
    subst hfz
    obtain ⟨h1, h2, h3, h4, h5⟩ := k2
    cases hblk : gb.blk with
    | none =>
      simp only [WinR, hblk] at hw
      obtain ⟨rfl, rfl, h0, hv⟩ := hw
      simp only [hblk] at h5
      obtain ⟨rfl, ho, hc⟩ := h5
      refine ⟨gb, ⟨h1, h2, by simpa [Win.app] using h3, h4, ?_⟩, (fun _ h1 _ => by rw [hblk] at h1; cases h1), ?_⟩
      · simp only [hblk]
        exact ⟨by simp [Win.app], ho, hc⟩
      · simp only [WinR, hblk]
        exact ⟨hv, h0⟩
    | some blk =>
      simp only [WinR, hblk] at hw
      obtain ⟨w1, a, c', hv, wsp, w2, w3, w4, w5⟩ := hw
      have hlw : (Win.app (.part off n full) l).length = n := by simp only [Win.app, List.length_take, List.length_drop]; omega
      simp only [Value.slice.injEq] at hv
      obtain ⟨rfl, hn, rfl⟩ := hv
      by_cases hc0 : c = 0
      · have hnil : Win.app (.part off n full) l = [] := List.eq_nil_of_length_eq_zero (by omega)
        rw [hnil]
        obtain ⟨ab, ao, as⟩ := a
        simp only at wsp
        subst wsp
        exact ⟨⟨true, false, some ab, ao, 0, 0, S.size⟩, ⟨rfl, rfl, rfl, Nat.le_refl _, .inr rfl, rfl, [], rfl, fun j v e => by simp at e⟩, (fun _ _ h => nomatch h), by simp [WinR, hc0]⟩
      · have ha : a = ⟨blk, gb.off + off * gb.sz, none⟩ := by
          rcases w5 with h0 | h0
          · exact (hc0 h0).elim
          · exact h0
        have hT : ∀ (x : S.den) (cs : List Value), CR g.fz S x cs → cs.length = S.size := fun x cs h => h.length
        refine ⟨⟨true, gb.own, some blk, gb.off + off * gb.sz, (Win.app (.part off n full) l).length, c, S.size⟩, ⟨rfl, rfl, rfl, hnc, ?_⟩, (fun b e1 e2 => ⟨by cases e1; rfl, e2⟩), by simp only [WinR, ha]⟩
        cases ho : gb.own with
        | false =>
          simp only [hblk, ho] at h5
          obtain ⟨q1, q2, _⟩ := h5
          rcases q1 with q1 | q1
          · exact absurd q1 (by decide)
          · subst q1
            simp only [List.length_nil] at h3
            omega
        | true =>
          simp only [hblk, ho] at h5
          obtain ⟨cells, cs, q1, q2, q3, q4, q5, q6⟩ := h5
          have hs1 := q3.split hT off (by omega)
          have hs2 := hs1.2.split hT n (by rw [List.length_drop]; omega)
          refine ⟨cells, _, q1, ?_, hs2.1, ?_, (fun _ => by first | exact q5 trivial | exact q5 rfl), (fun h => nomatch h)⟩
          · simp only [h2]
            have := Nat.mul_le_mul_right S.size w4
            rw [Nat.add_mul] at this
            omega
          · intro j v e
            rw [List.getElem?_take] at e
            split at e
            · rw [List.getElem?_drop] at e
              have := q4 _ v e
              simp only [h2]
              rwa [← Nat.add_assoc] at this
            · cases e

/-- A row with room behind a window. -/
theorem rowRoom_ok {g : Gh} {w : World} {S : Ty} {fz : Bool} {l : List S.den} {gb : Gb} (k2 : BoxR g (.row S fz l) gb w) {wn : Win} {a0 : Option Addr} {c : Nat} (hw : WinR gb wn (.slice a0 (wn.app l).length c))
    (hbf : (!fz || wn.isWhole) = true) (hlt : (wn.app l).length < c) :
    ∃ blk so cells, gb.blk = some blk ∧ gb.own = true ∧ a0 = some ⟨blk, so, none⟩ ∧ BlkIs w blk cells ∧ so + c * S.size ≤ cells.length ∧ True ∧ True ∧
      ∃ cs, Elems (CR g.fz S) (wn.app l) cs ∧ (∀ j v, cs[j]? = some v → cells[so + j]? = some v) ∧ (fz = false → ∀ o, g.fz blk o = none) ∧ (fz = true → Fz g.fz blk so cs ∧ ∀ o, so + cs.length ≤ o → g.fz blk o = none) := by
  obtain ⟨h1, h2, h3, h4, h5⟩ := k2
  cases hblk : gb.blk with
  | none =>
    exfalso
    cases wn with
    | whole => simp only [WinR, hblk] at hw; simp only [Value.slice.injEq] at hw; omega
    | part off n full => simp only [WinR, hblk] at hw; simp only [Value.slice.injEq] at hw; omega
  | some blk =>
    cases ho : gb.own with
    | false =>
      exfalso
      simp only [hblk, ho] at h5
      obtain ⟨q1, q2, _⟩ := h5
      cases wn with
      | whole =>
        simp only [WinR, hblk, Value.slice.injEq, Win.app] at hw hlt
        omega
      | part off n full =>
        have hfz : fz = false := by cases fz <;> first | rfl | (simp [Win.isWhole] at hbf)
        subst hfz
        rcases q1 with q1 | q1
        · exact absurd q1 (by decide)
        · subst q1
          simp only [List.length_nil] at h3
          simp only [WinR, hblk] at hw
          obtain ⟨w1, a, c', hv, _, w2, _, w4, _⟩ := hw
          simp only [Value.slice.injEq] at hv
          omega
    | true =>
      simp only [hblk, ho] at h5
      obtain ⟨cells, cs, q1, q2, q3, q4, q5, q6⟩ := h5
      cases wn with
      | whole =>
        simp only [WinR, hblk, Value.slice.injEq] at hw
        obtain ⟨rfl, _, rfl⟩ := hw
        exact ⟨blk, gb.off, cells, rfl, rfl, rfl, q1, q2, trivial, trivial, cs, q3, q4, q5, q6⟩
      | part off n full =>
        have hfz : fz = false := by cases fz <;> first | rfl | (simp [Win.isWhole] at hbf)
        subst hfz
        simp only [WinR, hblk] at hw
        obtain ⟨w1, a, c', hv, _, w2, _, w4, w5⟩ := hw
        simp only [Value.slice.injEq] at hv
        obtain ⟨rfl, hn, rfl⟩ := hv
        have ha : a = ⟨blk, gb.off + off * gb.sz, none⟩ := by
          rcases w5 with h0 | h0
          · omega
          · exact h0
        have hT : ∀ (x : S.den) (cs : List Value), CR g.fz S x cs → cs.length = S.size := fun x cs h => h.length
        have hs1 := q3.split hT off (by omega)
        have hs2 := hs1.2.split hT n (by rw [List.length_drop]; omega)
        refine ⟨blk, gb.off + off * gb.sz, cells, rfl, rfl, by rw [ha], q1, ?_, trivial, trivial, _, hs2.1, ?_, (fun _ => by first | exact q5 trivial | exact q5 rfl), (fun h => nomatch h)⟩
        · rw [h2]
          have := Nat.mul_le_mul_right S.size w4
          rw [Nat.add_mul] at this
          omega
        · intro j v e
          rw [List.getElem?_take] at e
          split at e
          · rw [List.getElem?_drop] at e
            have := q4 _ v e
            rw [h2]
            rwa [← Nat.add_assoc] at this
          · cases e

theorem appendV_ok (hC : CfgOK C P) {g : Gh} {s : St} {tm : Array Value} {tms : List (Array Value)} {w : World} (hs : StR g s tm tms w) {key t yt ty : Nat} {x y v : AV} {eff : Eff} (h : appendV C s.bxs key t x y yt = some (true, v, eff))
    (hkey : ∀ k b, eff = .add k b → find s.bxs k = none) {a b : Value} (hx : VR g x a) (hy : VR g y b) :
    ∃ z w' g', (Builtin.append_ #[t, yt] ty #[a, b]).run P w = .ok z w' ∧ VR g' v z ∧ StR g' (eff.apply s) tm tms w' ∧ Tr g w g' w' := by
  unfold appendV at h
  split at h
  · rename_i e hu
    split at h
    · cases h
    · rename_i S m hm
      split at h
      · rename_i hcond
        obtain ⟨hty, hnz, hyt⟩ := hcond
        obtain ⟨i, z, d, ht, hd, hsl, hi, his, hby, hz, hzs, hS0⟩ := (appT hC hu hty hnz hyt).out
        obtain ⟨news, hg, hel⟩ := moreV_ok (P := P) hs hm hy
        rw [← his] at hg
        have hT : ∀ (x : S.den) (cs : List Value), CR g.fz S x cs → cs.length = S.size := fun x cs h => h.length
        have hnl : news.length = m.length * i.size := by rw [his]; exact hel.length hT
        have hone : ∀ c ∈ news, c.oneCell' = true := hel.all (fun x cs h => h.one)
        have h63 : ∀ q : Nat, q ≤ appLim → ((q : Nat) : Int) ≤ 9223372036854775807 := fun q hq => by unfold appLim at hq; omega
        split at h
        · -- nil
          simp only [Option.some.injEq, Prod.mk.injEq, decide_eq_true_eq] at h
          obtain ⟨hlim, rfl, rfl⟩ := h
          have hk := hkey _ _ rfl
          have hx' : [a] = [Value.slice none 0 0] := hx
          simp only [List.cons.injEq, and_true] at hx'
          subst hx'
          by_cases hm0 : m = []
          · subst hm0
            have hn0 : news = [] := hel
            subst hn0
            have hrun := run_append_in (ty := ty) (w := w) (w' := w) ht hd hsl hi (base := none) (n := 0) (c := 0) (k := 0) hg (by simp) (Nat.le_refl 0) rfl
            let gb : Gb := ⟨true, false, none, 0, 0, 0, S.size⟩
            obtain ⟨h1, h2, _⟩ := hs.add hk (⟨rfl, rfl, rfl, Nat.le_refl _, fun _ _ _ => rfl⟩ : w.grownBy w none) (.row S false []) gb ⟨rfl, rfl, rfl, Nat.le_refl _, rfl, rfl, rfl⟩ (fun blk e1 _ => by cases e1)
            exact ⟨_, w, _, hrun, ⟨gb, _, Gh.put_same _ _ _, rfl, rfl, rfl, rfl⟩, h1, h2⟩
          · have hpos : 0 < 0 + m.length := by cases m with | nil => exact (hm0 rfl).elim | cons => simp
            have hrun := run_append_out (ty := ty) (w := w) (z := z) ht hd hsl hi hz (base := none) (n := 0) (c := 0) (gives_nil rfl) (by simp) hg hnl hpos (h63 _ (by omega)) (fit_ok hpos (by omega) hby)
            have hge := grownCap_ge w (0 + m.length) 0 e
            have hr := fresh_ok hs hk (L := m) (cs := news) (rest := (Builtin.zeroCells z.cells (grownCap w (0 + m.length) 0 e - (0 + m.length))).toList) (e := e) hel (cap := grownCap w (0 + m.length) 0 e) (by omega) (by rw [grown_len _ _ _ _ _ _ hzs, Nat.zero_add])
            simp only [List.nil_append, Nat.zero_add] at hrun hr
            exact ⟨_, _, _, hrun, hr.1, hr.2.1, hr.2.2⟩
        · -- an empty literal
          rename_i T
          simp only [Option.some.injEq, Prod.mk.injEq, decide_eq_true_eq] at h
          obtain ⟨hlim, rfl, rfl⟩ := h
          have hk := hkey _ _ rfl
          have hx' : GR g (.full T []) [a] := hx
          obtain ⟨blk, off, cs', e1, _, _⟩ := hx'
          simp only [List.cons.injEq, and_true, List.length_nil] at e1
          subst e1
          by_cases hm0 : m = []
          · subst hm0
            have hn0 : news = [] := hel
            subst hn0
            have hrun := run_append_in (ty := ty) (w := w) (w' := w) ht hd hsl hi (base := some ⟨blk, off, none⟩) (n := 0) (c := 0) (k := 0) hg (by simp) (Nat.le_refl 0) (by simp [storeCells])
            let gb : Gb := ⟨true, false, some blk, off, 0, 0, S.size⟩
            obtain ⟨h1, h2, _⟩ := hs.add hk (⟨rfl, rfl, rfl, Nat.le_refl _, fun _ _ _ => rfl⟩ : w.grownBy w none) (.row S false []) gb ⟨rfl, rfl, rfl, Nat.le_refl _, .inr rfl, rfl, [], rfl, fun j v e => by simp at e⟩ (fun blk e1 e2 => by cases e2)
            exact ⟨_, w, _, hrun, ⟨gb, _, Gh.put_same _ _ _, rfl, rfl, rfl⟩, h1, h2⟩
          · have hpos : 0 < 0 + m.length := by cases m with | nil => exact (hm0 rfl).elim | cons => simp
            have hrun := run_append_out (ty := ty) (w := w) (z := z) ht hd hsl hi hz (base := some ⟨blk, off, none⟩) (n := 0) (c := 0) (olds := []) (gives_slice (fun j v e => by simp at e) (by simp)) (by simp) hg hnl hpos (h63 _ (by omega)) (fit_ok hpos (by omega) hby)
            have hge := grownCap_ge w (0 + m.length) 0 e
            have hr := fresh_ok hs hk (L := m) (cs := news) (rest := (Builtin.zeroCells z.cells (grownCap w (0 + m.length) 0 e - (0 + m.length))).toList) (e := e) hel (cap := grownCap w (0 + m.length) 0 e) (by omega) (by rw [grown_len _ _ _ _ _ _ hzs, Nat.zero_add])
            simp only [List.nil_append, Nat.zero_add] at hrun hr
            exact ⟨_, _, _, hrun, hr.1, hr.2.1, hr.2.2⟩
        · -- a literal
          rename_i T l hne
          split at h
          · rename_i hST
            subst hST
            simp only [Option.some.injEq, Prod.mk.injEq, Bool.and_eq_true, decide_eq_true_eq, Bool.not_eq_true', List.isEmpty_eq_false_iff] at h
            obtain ⟨⟨hlim, hm0⟩, rfl, rfl⟩ := h
            have hk := hkey _ _ rfl
            have hx' : GR g (.full S l) [a] := hx
            obtain ⟨blk, off, cs', e1, k1, k2⟩ := hx'
            simp only [List.cons.injEq, and_true] at e1
            subst e1
            have hpos : l.length < l.length + m.length := by cases m with | nil => exact (hm0 rfl).elim | cons => simp
            have hol : cs'.length = l.length * i.size := by rw [his]; exact k1.length hT
            have hrun := run_append_out (ty := ty) (w := w) (z := z) ht hd hsl hi hz (gives_slice (k2.cells hs.fz) hol) hol hg hnl hpos (h63 _ hlim) (fit_ok hpos hlim hby)
            have hge := grownCap_ge w (l.length + m.length) l.length e
            have hr := fresh_ok hs hk (L := l ++ m) (cs := cs' ++ news) (rest := (Builtin.zeroCells z.cells (grownCap w (l.length + m.length) l.length e - (l.length + m.length))).toList) (e := e) (k1.append hel) (cap := grownCap w (l.length + m.length) l.length e) (by rw [List.length_append]; omega) (by rw [grown_len _ _ _ _ _ _ hzs, List.length_append])
            rw [List.length_append] at hr
            exact ⟨_, _, _, hrun, hr.1, hr.2.1, hr.2.2⟩
          · cases h
        · -- a row
          rename_i bk wn
          split at h
          · rename_i T fz l hb
            split at h
            · rename_i hST
              subst hST
              cases hbf : (!fz || wn.isWhole) with
              | false => rw [hbf] at h; cases h
              | true =>
                rw [hbf] at h
                simp only [cond_true, Option.some.injEq, Prod.mk.injEq, decide_eq_true_eq] at h
                obtain ⟨hlim, rfl, rfl⟩ := h
                have hx' : GR g (.row bk wn) [a] := hx
                obtain ⟨gb, v0, e1, e2, e3, hw⟩ := hx'
                simp only [List.cons.injEq, and_true] at e3
                subst e3
                obtain ⟨gb', k1, k2⟩ := hs.bxs.box _ _ hb
                rw [e1] at k1
                cases k1
                have hview : viewT C s.bxs e (.row bk wn) = some ⟨S, wn.app l⟩ := by simp only [viewT, hb]
                obtain ⟨a0, c, rfl, hnc, hcont⟩ := viewT_ok hs hview hx
                -- what is there, as an operand
                have hold : ∃ olds, Gives P w i.size (.slice a0 (wn.app l).length c) (wn.app l).length olds ∧ Elems (CR g.fz S) (wn.app l) olds := by
                  rcases hcont with ⟨rfl, hnil, _⟩ | ⟨blk, off, cs, rfl, h4, h5, _⟩
                  · rw [hnil]
                    exact ⟨[], gives_nil rfl, rfl⟩
                  · exact ⟨cs, gives_slice h5 (by rw [his]; exact h4.length hT), h4⟩
                obtain ⟨olds, hgo, heo⟩ := hold
                have hol : olds.length = (wn.app l).length * i.size := by rw [his]; exact heo.length hT
                by_cases hroom : (wn.app l).length + m.length ≤ c
                · -- there is room
                  by_cases hm0 : m = []
                  · subst hm0
                    have hn0 : news = [] := hel
                    subst hn0
                    have hrun := run_append_in (ty := ty) (w := w) (w' := w) ht hd hsl hi hg (by simp) hroom (base := a0) (by cases a0 <;> simp [storeCells])
                    have hs' : ∃ gb', BoxR g (.row S fz (wn.app l)) gb' w ∧ (∀ blk, gb'.blk = some blk → gb'.own = true → gb.blk = some blk ∧ gb.own = true) ∧ WinR gb' .whole (.slice a0 (wn.app l).length c) := by
                      exact rowWin_ok k2 hw hs.fz hbf hnc
                    obtain ⟨gb', p1, p2, p3⟩ := hs'
                    obtain ⟨g', q1, q2, q3⟩ := appSame hs e1 e2 p1 p2 p3
                    simp only [List.length_nil, Nat.add_zero, List.append_nil] at hrun ⊢
                    exact ⟨_, _, g', hrun, q1, q2, q3⟩
                  · -- in place
                    have hmpos : 0 < m.length := by cases m with | nil => exact (hm0 rfl).elim | cons => simp
                    obtain ⟨blk, so, cells, p1, p2, p3, p4, p5, p6, p7, p8⟩ := rowRoom_ok k2 hw hbf (by omega)
                    obtain ⟨cs, q1, q2, q3, q4⟩ := p8
                    subst p3
                    have hcl : cs.length = (wn.app l).length * i.size := by rw [his]; exact q1.length hT
                    have hfit : so + (wn.app l).length * i.size + news.length ≤ cells.length := by
                      have h1 := Nat.mul_le_mul_right S.size hroom
                      rw [Nat.add_mul] at h1
                      rw [hnl, his]
                      omega
                    obtain ⟨w', r1, r2, r3⟩ := run_storeCells_blk (P := P) (off := so + (wn.app l).length * i.size) news 0 p4 (by simpa using hfit) hone
                    have hrun := run_append_in (ty := ty) (w := w) (w' := w') ht hd hsl hi hg hnl hroom (base := some ⟨blk, so, none⟩) (by simpa [add_lit'] using r1)
                    rw [Nat.add_zero, ← hcl] at r3
                    obtain ⟨g', s1, s2, s3⟩ := appIn hs e1 e2 p1 p2 p4 q1 hel q2 hroom p5 r2 r3 q3 q4
                    exact ⟨_, _, g', hrun, s1, s2, s3⟩
                · -- in new memory
                  have hlt : c < (wn.app l).length + m.length := by omega
                  have hrun := run_append_out (ty := ty) (w := w) (z := z) ht hd hsl hi hz hgo hol hg hnl hlt (h63 _ hlim) (fit_ok hlt hlim hby)
                  have hge := grownCap_ge w ((wn.app l).length + m.length) c e
                  obtain ⟨g', r1, r2, r3⟩ := appOut hs e1 e2 (L := wn.app l ++ m) (cs := olds ++ news) (rest := (Builtin.zeroCells z.cells (grownCap w ((wn.app l).length + m.length) c e - ((wn.app l).length + m.length))).toList) (e := e) (heo.append hel)
                    (cap := grownCap w ((wn.app l).length + m.length) c e) (by rw [List.length_append]; exact hge) (by rw [grown_len _ _ _ _ _ _ hzs, List.length_append]) fz
                  rw [List.length_append] at r1
                  exact ⟨_, _, g', hrun, r1, r2, r3⟩
            · cases h
          · cases h
        · cases h
      · cases h
  · cases h

end
end Go.V
