/- Addresses of fields and elements; elements and fields of values. -/
import Derived.Test.YtccdkoimpoockaaDoorVOps3
set_option linter.all false
set_option linter.unusedVariables false
set_option linter.unusedSectionVars false
set_option linter.unusedSimpArgs false
namespace Go.V
variable [Codes]
section
variable {C : Cfg} {P : Program}

theorem run_fieldAt {w : World} {s t f o : Nat} {fs : List (Nat × Nat)} (hC : CfgOK C P) (hu : C.under s = .st fs) (hf : fs[f]? = some (o, t)) (hz : C.size t ≠ 0) (blk off : Nat) :
    (Instr.fieldAt s (.pointer (some ⟨blk, off, none⟩)) f).run P w = .ok (.pointer (some ⟨blk, off + o, none⟩)) w := by
  obtain ⟨fields, hd, hfs⟩ := hC.st _ _ hu
  obtain ⟨i, hi, his, _⟩ := hC.size t hz
  subst hfs
  rw [List.getElem?_map, Option.map_eq_some_iff] at hf
  obtain ⟨fl, hfl, he⟩ := hf
  have hfl' : fields[f]? = some fl := by simpa using hfl
  have h1 : fl.offset = o := congrArg Prod.fst he
  have h2 : fl.type = t := congrArg Prod.snd he
  have hsz : ¬ (C.size t = 0) := hz
  simp [Instr.fieldAt, run_underlying hd, hfl', Instr.sureAddr, fieldPlace, h2, run_sizeOf hi, his, hsz, add_lit', h1]

theorem addP_ok : ∀ {p : List Stp}, p ≠ [] → ∀ (o : Nat), stepsOff (addP p o) = stepsOff p + o ∧ ((∀ s ∈ p, 0 ≤ s.i ∧ s.i < s.n) → ∀ s ∈ addP p o, 0 ≤ s.i ∧ s.i < s.n)
  | [], h, _ => (h rfl).elim
  | [s], _, o => ⟨by simp [addP, stepsOff]; omega, fun h u hu => by simp only [addP, List.mem_singleton] at hu; subst hu; exact h s (by simp)⟩
  | s :: u :: p, _, o => by
    obtain ⟨h1, h2⟩ := addP_ok (p := u :: p) (by simp) o
    refine ⟨by simp only [addP, stepsOff_cons] at h1 ⊢; omega, fun h v hv => ?_⟩
    simp only [addP, List.mem_cons] at hv
    rcases hv with rfl | hv
    · exact h v (by simp)
    · exact h2 (fun s hs => h s (List.mem_cons_of_mem _ hs)) v (by simpa [addP] using hv)

theorem fieldAddrV_ok (hC : CfgOK C P) {g : Gh} {w : World} {t f : Nat} {a : AV} {c : Bool} {v : AV} {e : Eff} (h : fieldAddrV C t a f = some (c, v, e)) {x : Value} (ha : VR g a x) :
    e = .none ∧ ∃ y, (Instr.fieldAt t x f).run P w = .ok y w ∧ VR g v y := by
  unfold fieldAddrV at h
  split at h
  · rename_i o ft hf
    unfold fieldOff at hf
    split at hf
    · rename_i fs hu
      split at h
      · cases h
      · rename_i hz
        split at h
        · rename_i gs
          split at h
          · rename_i gs' hd
            simp only [ok, Option.some.injEq, Prod.mk.injEq] at h
            obtain ⟨_, rfl, rfl⟩ := h
            have ha' : GR g (.eptr gs) [x] := ha
            obtain ⟨blk, off, cs', e1, h1, h2⟩ := ha'
            simp only [List.cons.injEq, and_true] at e1
            subst e1
            refine ⟨rfl, _, run_fieldAt hC hu hf hz blk off, ?_⟩
            exact ⟨blk, off + o, cs'.drop o, rfl, psR_drop hd h1, fun j v e => by
              have := h2 (o + j) v (by simpa using e)
              rwa [← Nat.add_assoc] at this⟩
          · cases h
        · rename_i b off
          simp only [ok, Option.some.injEq, Prod.mk.injEq] at h
          obtain ⟨_, rfl, rfl⟩ := h
          have ha' : GR g (.ptr b off []) [x] := ha
          obtain ⟨gb, blk, e1, e2, e3, e4, e5⟩ := ha'
          simp only [List.cons.injEq, and_true, stepsOff, Nat.add_zero] at e5
          subst e5
          exact ⟨rfl, _, run_fieldAt hC hu hf hz blk _, gb, blk, e1, e2, e3, by simp, by simp [stepsOff]⟩
        · rename_i b off p hp
          simp only [ok, Option.some.injEq, Prod.mk.injEq] at h
          obtain ⟨_, rfl, rfl⟩ := h
          have ha' : GR g (.ptr b off p) [x] := ha
          obtain ⟨gb, blk, e1, e2, e3, e4, e5⟩ := ha'
          simp only [List.cons.injEq, and_true] at e5
          subst e5
          have hne : p ≠ [] := hp
          obtain ⟨k1, k2⟩ := addP_ok hne o
          exact ⟨rfl, _, run_fieldAt hC hu hf hz blk _, gb, blk, e1, e2, e3, k2 e4, by rw [k1, ← Nat.add_assoc]⟩
        · rename_i b i j
          simp only [ok, Option.some.injEq, Prod.mk.injEq] at h
          obtain ⟨_, rfl, rfl⟩ := h
          have ha' : GR g (.rptr b i j) [x] := ha
          obtain ⟨gb, blk, e1, e2, e3, e4, e5, e6⟩ := ha'
          simp only [List.cons.injEq, and_true] at e6
          subst e6
          exact ⟨rfl, _, run_fieldAt hC hu hf hz blk _, gb, blk, e1, e2, e3, e4, e5, by rw [Nat.add_assoc (gb.off + _)]⟩
        · cases h
    · cases hf
  · cases h
where
  psR_drop {fz : Nat → Nat → Option Value} : ∀ {gs : List AV} {n : Nat} {gs' : List AV} {cs : List Value}, dropGs gs n = some gs' → PsR fz gs cs → PsR fz gs' (cs.drop n)
    | gs, 0, gs', cs, h, k => by
      simp only [dropGs, Option.some.injEq] at h
      subst h
      simpa using k
    | [], n + 1, gs', cs, h, k => by simp [dropGs] at h
    | .val T x :: gs, n + 1, gs', cs, h, ⟨c1, c2, e, h1, h2⟩ => by
      simp only [dropGs] at h
      by_cases hle : (AV.val T x).size ≤ n + 1
      · simp only [Nat.ble_eq_true_of_le hle, cond_true] at h
        have h4 := psR_drop h h2
        have hl := h1.length
        subst e
        have hl' : c1.length = (AV.val T x).size := hl
        rw [List.drop_append, List.drop_of_length_le (by omega), List.nil_append, hl']
        exact h4
      · have hb := ble_false hle
        simp [hb] at h

theorem idx_ok {g : Gh} {v : AV} {i : Int} (h : idx v = some i) {x : Value} (hx : VR g v x) : ∃ k, x = .int k i := by
  unfold idx at h
  split at h
  · rename_i k n
    simp only [Option.some.injEq] at h
    subst h
    have hx' : GR g (.val (.int k) n) [x] := hx
    have : [x] = [Value.int k n] := hx'
    exact ⟨k, by simpa using this⟩
  · cases h

theorem inR_ok {i : Int} {n : Nat} (h : inR i n = true) : 0 ≤ i ∧ i < n := by
  simp only [inR, Bool.and_eq_true, decide_eq_true_eq] at h
  exact h

theorem run_indexAt_arr {w : World} {t n e : Nat} (hd : P.underlying t = some (.array n e)) {i : Int} (h0 : 0 ≤ i) (h1 : i < n) {inf : TypeInfo} (hi : P.info? e = some inf) (k : IntKind) (blk off : Nat) :
    (Instr.indexAt t (.pointer (some ⟨blk, off, none⟩)) (.int k i)).run P w = .ok (.pointer (some ⟨blk, off + i.toNat * inf.size, none⟩)) w := by
  simp [Instr.indexAt, asIntOf, run_underlying hd, Instr.sureAddr, h0, h1, run_sizeOf hi, add_lit']

theorem run_indexAt_sl {w : World} {t e : Nat} (hd : P.underlying t = some (.slice e)) {i : Int} {len cap : Nat} (h0 : 0 ≤ i) (h1 : i < len) {inf : TypeInfo} (hi : P.info? e = some inf) (k : IntKind) (a : Addr) :
    (Instr.indexAt t (.slice (some a) len cap) (.int k i)).run P w = .ok (.pointer (some (a.add (i.toNat * inf.size)))) w := by
  simp [Instr.indexAt, asIntOf, run_underlying hd, h0, h1, run_sizeOf hi]

/-- What a slice reads as: its value, and where its cells lie. -/
theorem viewT_ok {g : Gh} {s : St} {tm : Array Value} {tms : List (Array Value)} {w : World} (hs : StR g s tm tms w) {e : Nat} {v : AV} {T : Ty} {l : List T.den} (h : viewT C s.bxs e v = some ⟨T, l⟩) {x : Value} (hx : VR g v x) :
    ∃ a cap, x = .slice a l.length cap ∧ l.length ≤ cap ∧ ((a = none ∧ l = [] ∧ cap = 0) ∨ ∃ blk off cs, a = some ⟨blk, off, none⟩ ∧ Elems (CR g.fz T) l cs ∧ CellsAt w blk off cs ∧ ((∀ b wn, v ≠ .row b wn) → Fz g.fz blk off cs)) := by
  unfold viewT at h
  split at h
  · rename_i T' l'
    simp only [Option.some.injEq, Sigma.mk.injEq] at h
    obtain ⟨rfl, h⟩ := h
    obtain rfl := eq_of_heq h
    have hx' : GR g (.val (.sl T') l') [x] := hx
    obtain ⟨v, e1, h1⟩ := hx'
    simp only [List.cons.injEq, and_true] at e1
    subst e1
    rcases h1 with ⟨rfl, rfl⟩ | ⟨blk, off, cap, cs, rfl, h2, h3, h4⟩
    · exact ⟨none, 0, rfl, Nat.le_refl _, .inl ⟨rfl, rfl, rfl⟩⟩
    · exact ⟨_, cap, rfl, h2, .inr ⟨blk, off, cs, rfl, h3, h4.cells hs.fz, fun _ => h4⟩⟩
  · rename_i T' l'
    simp only [Option.some.injEq, Sigma.mk.injEq] at h
    obtain ⟨rfl, h⟩ := h
    obtain rfl := eq_of_heq h
    have hx' : GR g (.full T' l') [x] := hx
    obtain ⟨blk, off, cs', e1, h1, h2⟩ := hx'
    simp only [List.cons.injEq, and_true] at e1
    exact ⟨_, _, e1, Nat.le_refl _, .inr ⟨blk, off, cs', rfl, h1, h2.cells hs.fz, fun _ => h2⟩⟩
  · rename_i T' l'
    simp only [Option.some.injEq, Sigma.mk.injEq] at h
    obtain ⟨rfl, h⟩ := h
    obtain rfl := eq_of_heq h
    have hx' : GR g (.nn T' l') [x] := hx
    obtain ⟨blk, off, cap, cs', e1, h0, h1, h2⟩ := hx'
    simp only [List.cons.injEq, and_true] at e1
    exact ⟨_, _, e1, h0, .inr ⟨blk, off, cs', rfl, h1, h2.cells hs.fz, fun _ => h2⟩⟩
  · split at h
    · rename_i T' ht
      simp only [Option.some.injEq, Sigma.mk.injEq] at h
      obtain ⟨rfl, h⟩ := h
      obtain rfl := eq_of_heq h
      have hx' : [x] = [Value.slice none 0 0] := hx
      simp only [List.cons.injEq, and_true] at hx'
      exact ⟨none, 0, hx', Nat.le_refl _, .inl ⟨rfl, rfl, rfl⟩⟩
    · cases h
  · rename_i b wn
    split at h
    · rename_i T' fz l' hb
      simp only [Option.some.injEq, Sigma.mk.injEq] at h
      obtain ⟨rfl, h⟩ := h
      obtain rfl := eq_of_heq h
      have hx' : GR g (.row b wn) [x] := hx
      obtain ⟨gb, v, e1, e2, e3, hw⟩ := hx'
      simp only [List.cons.injEq, and_true] at e3
      subst e3
      obtain ⟨gb', k1, k2⟩ := hs.bxs.box _ _ hb
      rw [e1] at k1
      cases k1
      have hsz : gb.sz = T'.size := k2.2.1
      have hlen : gb.len = l'.length := k2.2.2.1
      have hcap : gb.len ≤ gb.cap := k2.2.2.2.1
      cases hblk : gb.blk with
      | none =>
        have hr := k2.2.2.2.2
        simp only [hblk] at hr
        obtain ⟨rfl, _⟩ := hr
        cases wn with
        | whole => simp only [WinR, hblk] at hw; exact ⟨none, 0, hw.1, Nat.le_refl _, .inl ⟨rfl, rfl, rfl⟩⟩
        | part off n full => simp only [WinR, hblk] at hw; exact ⟨none, 0, by simpa [Win.app] using hw.2.2.2, by simp [Win.app], .inl ⟨rfl, by simp [Win.app], rfl⟩⟩
      | some blk =>
        obtain ⟨cs, k3, k4⟩ := row_get hs.fz k2 hblk
        cases wn with
        | whole =>
          simp only [WinR, hblk] at hw
          exact ⟨_, gb.cap, by rw [hw, hlen]; rfl, by show l'.length ≤ _; omega, .inr ⟨blk, gb.off, cs, rfl, k3, k4, fun h => (h _ _ rfl).elim⟩⟩
        | part off n full =>
          simp only [WinR, hblk] at hw
          obtain ⟨w1, a, c, rfl, wsp, w2, w3, w4, w5⟩ := hw
          have hlw : (Win.app (.part off n full) l').length = n := by simp only [Win.app, List.length_take, List.length_drop]; omega
          refine ⟨some a, c, by rw [hlw], by rw [hlw]; exact w2, .inr ?_⟩
          by_cases hn : n = 0
          · have he : Win.app (.part off n full) l' = [] := List.eq_nil_of_length_eq_zero (by rw [hlw, hn])
            rw [he]
            obtain ⟨ab, ao, as⟩ := a
            simp only at wsp
            subst wsp
            exact ⟨ab, ao, [], rfl, rfl, fun j v e => by simp at e, fun h => (h _ _ rfl).elim⟩
          · have ha : a = ⟨blk, gb.off + off * gb.sz, none⟩ := by
              rcases w5 with h0 | h0
              · omega
              · exact h0
            have hT : ∀ (x : T'.den) (cs : List Value), CR g.fz T' x cs → cs.length = T'.size := fun x cs h => h.length
            have hs1 := k3.split hT off (by omega)
            have hs2 := hs1.2.split hT n (by rw [List.length_drop]; omega)
            exact ⟨blk, gb.off + off * gb.sz, _, by rw [ha], hs2.1, by rw [hsz]; exact (k4.drop (off * T'.size)).take (n * T'.size), fun h => (h _ _ rfl).elim⟩
    · cases h
  · cases h

theorem indexAddrV_ok (hC : CfgOK C P) {g : Gh} {s : St} {tm : Array Value} {tms : List (Array Value)} {w : World} (hs : StR g s tm tms w) {t : Nat} {a iv : AV} {v : AV} {e : Eff} (h : indexAddrV C s.bxs t a iv = some (true, v, e)) {x y : Value}
    (ha : VR g a x) (hy : VR g iv y) : e = .none ∧ ∃ z, (Instr.indexAt t x y).run P w = .ok z w ∧ VR g v z := by
  unfold indexAddrV at h
  split at h
  · cases h
  · rename_i i hi
    obtain ⟨k, rfl⟩ := idx_ok hi hy
    split at h
    · rename_i n e' hu
      have hd := hC.arr _ _ _ hu
      split at h
      · cases h
      · rename_i hz
        obtain ⟨inf, hinf, his, _⟩ := hC.size _ hz
        split at h
        · rename_i m T l gs
          split at h
          · rename_i hnm
            simp only [okIf, Option.some.injEq, Prod.mk.injEq] at h
            obtain ⟨hc, rfl, rfl⟩ := h
            obtain ⟨h0, h1⟩ := inR_ok hc
            have ha' : GR g (.eptr (.val (.arr m T) l :: gs)) [x] := ha
            obtain ⟨blk, off, cs', e1, h2, h3⟩ := ha'
            simp only [List.cons.injEq, and_true] at e1
            subst e1
            obtain ⟨c1, c2, rfl, k1, k2⟩ := h2
            obtain ⟨a1, c, b1, rfl, ha1, hcc⟩ := arr_get k1 h0 (by omega)
            refine ⟨rfl, _, run_indexAt_arr hd h0 h1 hinf k blk off, blk, _, c, rfl, psR_gs hcc, ?_⟩
            intro j v hj
            have hlt := (List.getElem?_eq_some_iff.1 hj).1
            have := h3 (a1.length + j) v (by
              rw [List.append_assoc, List.append_assoc, List.getElem?_append_right (by omega), Nat.add_sub_cancel_left, List.getElem?_append_left hlt]
              exact hj)
            rw [ha1, hnm.2, ← his, ← Nat.add_assoc] at this
            exact this
          · cases h
        · rename_i b off p
          simp only [okIf, Option.some.injEq, Prod.mk.injEq] at h
          obtain ⟨hc, rfl, rfl⟩ := h
          obtain ⟨h0, h1⟩ := inR_ok hc
          have ha' : GR g (.ptr b off p) [x] := ha
          obtain ⟨gb, blk, e1, e2, e3, e4, e5⟩ := ha'
          simp only [List.cons.injEq, and_true] at e5
          subst e5
          refine ⟨rfl, _, run_indexAt_arr hd h0 h1 hinf k blk _, gb, blk, e1, e2, e3, ?_, ?_⟩
          · intro u hu
            rw [List.mem_append, List.mem_singleton] at hu
            rcases hu with hu | rfl
            · exact e4 u hu
            · exact ⟨h0, h1⟩
          · rw [steps_snoc, his]
            simp only [Nat.add_zero, Nat.add_assoc]
        · cases h
    · rename_i e' hu
      have hd := hC.sl _ _ hu
      split at h
      · cases h
      · rename_i hz
        obtain ⟨inf, hinf, his, _⟩ := hC.size _ hz
        split at h
        · rename_i b
          split at h
          · rename_i T fz l hb
            split at h
            · rename_i hT
              simp only [okIf, Option.some.injEq, Prod.mk.injEq] at h
              obtain ⟨hc, rfl, rfl⟩ := h
              obtain ⟨h0, h1⟩ := inR_ok hc
              have ha' : GR g (.row b .whole) [x] := ha
              obtain ⟨gb, v, e1, e2, e3, hw⟩ := ha'
              simp only [List.cons.injEq, and_true] at e3
              subst e3
              obtain ⟨gb', k1, k2⟩ := hs.bxs.box _ _ hb
              rw [e1] at k1
              cases k1
              have hlen : gb.len = l.length := k2.2.2.1
              cases hblk : gb.blk with
              | none => simp only [WinR, hblk] at hw; omega
              | some blk =>
                simp only [WinR, hblk] at hw
                subst hw
                refine ⟨rfl, _, run_indexAt_sl hd h0 (by omega) hinf k _, gb, blk, e1, e2, hblk, h0, by omega, ?_⟩
                rw [add_lit', his, ← hT, ← k2.2.1, Nat.add_zero]
            · cases h
          · cases h
        · rename_i b off n full
          split at h
          · rename_i T fz l hb
            split at h
            · rename_i hT
              simp only [okIf, Option.some.injEq, Prod.mk.injEq] at h
              obtain ⟨hc, rfl, rfl⟩ := h
              obtain ⟨h0, h1⟩ := inR_ok hc
              have ha' : GR g (.row b (.part off n full)) [x] := ha
              obtain ⟨gb, v, e1, e2, e3, hw⟩ := ha'
              simp only [List.cons.injEq, and_true] at e3
              subst e3
              obtain ⟨gb', k1, k2⟩ := hs.bxs.box _ _ hb
              rw [e1] at k1
              cases k1
              cases hblk : gb.blk with
              | none => simp only [WinR, hblk] at hw; omega
              | some blk =>
                simp only [WinR, hblk] at hw
                obtain ⟨w1, a, c, rfl, wsp, w2, w3, w4, w5⟩ := hw
                have ha : a = ⟨blk, gb.off + off * gb.sz, none⟩ := by
                  rcases w5 with h2 | h2
                  · omega
                  · exact h2
                subst ha
                refine ⟨rfl, _, run_indexAt_sl hd h0 h1 hinf k _, gb, blk, e1, e2, hblk, by omega, by omega, ?_⟩
                rw [add_lit', his, ← hT, ← k2.2.1, Nat.add_zero, show ((off : Int) + i).toNat = off + i.toNat by omega, Nat.add_mul, Nat.add_assoc]
            · cases h
          · cases h
        · rename_i b off m lo n
          split at h
          · rename_i h1s
            simp only [okIf, Option.some.injEq, Prod.mk.injEq] at h
            obtain ⟨hc, rfl, rfl⟩ := h
            obtain ⟨h0, h1⟩ := inR_ok hc
            have ha' : GR g (.vsl b off m lo n) [x] := ha
            obtain ⟨gb, blk, cap, e1, e2, e3, e4, e5, a, e6, e7, e8⟩ := ha'
            simp only [List.cons.injEq, and_true] at e6
            subst e6
            have ha : a = ⟨blk, off + lo, none⟩ := by
              rcases e8 with h2 | h2
              · omega
              · exact h2
            subst ha
            refine ⟨rfl, _, run_indexAt_sl hd h0 h1 hinf k _, gb, blk, e1, e2, e3, ?_, ?_⟩
            · intro u hu
              simp only [List.mem_singleton] at hu
              subst hu
              exact ⟨by simp only; omega, by simp only; omega⟩
            · rw [add_lit', his, h1s]
              simp only [stepsOff, Nat.mul_one, Nat.add_zero]
              rw [show ((lo : Int) + i).toNat = lo + i.toNat by omega, Nat.add_assoc]
          · cases h
        · rename_i hx1 hx2 hx3
          split at h
          · rename_i T l hv
            split at h
            · rename_i hT
              simp only [okIf, Option.some.injEq, Prod.mk.injEq] at h
              obtain ⟨hc, rfl, rfl⟩ := h
              obtain ⟨h0, h1⟩ := inR_ok hc
              obtain ⟨a, cap, rfl, h2, h3⟩ := viewT_ok hs hv ha
              rcases h3 with ⟨_, rfl, _⟩ | ⟨blk, off, cs, rfl, h4, _, h5⟩
              · simp at h1; omega
              · have hfz := h5 (fun b wn e => by
                  cases wn with
                  | whole => exact hx1 b e
                  | part o n f => exact hx2 b o n f e)
                obtain ⟨a1, c, b1, rfl, ha1, hcc, _⟩ := h4.get (n := T.size) (fun x cs h => h.length) i.toNat (by omega)
                rw [← at_lt h0 h1] at hcc
                refine ⟨rfl, _, run_indexAt_sl hd h0 h1 hinf k _, blk, _, c, by rw [add_lit'], psR_gs hcc, ?_⟩
                intro j v hj
                have hlt := (List.getElem?_eq_some_iff.1 hj).1
                have := hfz (a1.length + j) v (by
                  rw [List.getElem?_append_right (by omega), Nat.add_sub_cancel_left, List.getElem?_append_left hlt]
                  exact hj)
                rw [ha1, hT, ← his, ← Nat.add_assoc] at this
                exact this
            · cases h
          · cases h
    · cases h
where
  steps_snoc : ∀ (p : List Stp) (s : Stp), stepsOff (p ++ [s]) = stepsOff p + (s.i.toNat * s.sz + s.o)
    | [], s => by simp [stepsOff]
    | u :: p, s => by rw [List.cons_append, stepsOff_cons, steps_snoc p s, stepsOff_cons]; omega

end
end Go.V
