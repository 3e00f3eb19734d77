/- Stores. -/
import Derived.Test.YtccdkoimpoockaaDoorVOps1
set_option linter.all false
set_option linter.unusedVariables false
set_option linter.unusedSectionVars false
set_option linter.unusedSimpArgs false
namespace Go.V
variable [Codes]
section
variable {C : Cfg} {P : Program}

/-- One block has turned. -/
structure StW (w w' : World) (blk : Nat) : Prop where
  os : w'.os = w.os
  tape : w'.tape = w.tape
  output : w'.output = w.output
  size : w'.heap.size = w.heap.size
  other : ∀ b, b ≠ blk → w'.heap[b]? = w.heap[b]?

theorem StW.refl (w : World) (blk : Nat) : StW w w blk := ⟨rfl, rfl, rfl, rfl, fun _ _ => rfl⟩
theorem StW.trans {a b c : World} {blk : Nat} (h : StW a b blk) (k : StW b c blk) : StW a c blk :=
  ⟨k.os.trans h.os, k.tape.trans h.tape, k.output.trans h.output, k.size.trans h.size, fun b hb => (k.other b hb).trans (h.other b hb)⟩

theorem stW_setCell (w : World) (a : Addr) (v : Value) : StW w (w.setCell a v) a.block :=
  ⟨rfl, rfl, rfl, by simp, fun b hb => heap_setCell_other w a b v hb⟩

theorem BlkIs.setCell {w : World} {blk : Nat} {cells : List Value} (h : BlkIs w blk cells) (o : Nat) (v : Value) : BlkIs (w.setCell ⟨blk, o, none⟩ v) blk (cells.set o v) := by
  obtain ⟨e, lo, hi, h1, h2⟩ := h
  refine ⟨e, lo, hi, ?_, fun j hj => h2 j (by simpa using hj)⟩
  simp only [World.setCell, Array.getElem?_modify, if_true, h1, Option.map_some]
  simp

theorem run_storeCells_blk {blk off : Nat} : ∀ (vs : List Value) (i : Nat) {w : World} {cells : List Value}, BlkIs w blk cells → off + i + vs.length ≤ cells.length → (∀ v ∈ vs, v.oneCell' = true) →
    ∃ w', (storeCells ⟨blk, off, none⟩ vs i).run P w = .ok () w' ∧ StW w w' blk ∧ BlkIs w' blk (cells.take (off + i) ++ vs ++ cells.drop (off + i + vs.length))
  | [], i, w, cells, h, hl, _ => ⟨w, by simp [storeCells], StW.refl w blk, by simpa using h⟩
  | v :: vs, i, w, cells, h, hl, h1 => by
    simp only [List.length_cons] at hl
    have hc : w.cell? ⟨blk, off + i, none⟩ = some cells[off + i] := by rw [h.cell, List.getElem?_eq_getElem (by omega)]
    have hf := h.frozen (o := off + i) (by omega)
    have hs := h.setCell (off + i) v
    obtain ⟨w', h3, h4, h5⟩ := run_storeCells_blk (off := off) vs (i + 1) hs (by simp; omega) (fun u hu => h1 u (List.mem_cons_of_mem _ hu))
    refine ⟨w', ?_, (stW_setCell w ⟨blk, off + i, none⟩ v).trans h4, ?_⟩
    · simp only [storeCells, Sem.run_bind, add_lit', run_store P w _ v .plain (h1 v (by simp)), hc, hf, Bool.false_eq_true, if_false, Result.andThen_ok]
      exact h3
    · have e : (cells.set (off + i) v).take (off + (i + 1)) ++ vs ++ (cells.set (off + i) v).drop (off + (i + 1) + vs.length) = cells.take (off + i) ++ v :: vs ++ cells.drop (off + i + (v :: vs).length) := by
        have e1 : (cells.set (off + i) v).drop (off + (i + 1) + vs.length) = cells.drop (off + i + (v :: vs).length) := by
          rw [List.drop_set_of_lt (show off + i < off + (i + 1) + vs.length by omega)]
          congr 1
          simp only [List.length_cons]
          omega
        have e2 : (cells.set (off + i) v).take (off + (i + 1)) = cells.take (off + i) ++ [v] := by
          rw [show off + (i + 1) = (off + i) + 1 by omega, List.take_succ_eq_append_getElem (show off + i < (cells.set (off + i) v).length by simp; omega), List.take_set_of_le (Nat.le_refl _)]
          simp
        rw [e1, e2]
        simp
      rwa [e] at h5

theorem run_storeVar {t : TypeId} {i : TypeInfo} (hi : P.info? t = some i) {blk off : Nat} {w : World} {cells : List Value} {v : Value} (h : BlkIs w blk cells) (hl : v.cells.toList.length = i.size)
    (hb : off + i.size ≤ cells.length) (h1 : ∀ c ∈ v.cells.toList, c.oneCell' = true) :
    ∃ w', (storeVar t ⟨blk, off, none⟩ v).run P w = .ok () w' ∧ StW w w' blk ∧ BlkIs w' blk (cells.take off ++ v.cells.toList ++ cells.drop (off + i.size)) := by
  obtain ⟨w', h3, h4, h5⟩ := run_storeCells_blk (P := P) (off := off) v.cells.toList 0 h (by rw [hl]; omega) h1
  refine ⟨w', ?_, h4, by simpa [← hl] using h5⟩
  have hs : ¬ (v.cells.size ≠ i.size) := by rw [← hl]; simp
  simp only [storeVar, Sem.run_bind, run_sizeOf hi, Result.andThen_ok, hs, if_false]
  exact h3

/-! Where a place is replaced. -/
theorem conv_ok {g : Gh} {bxs : Bxs} {w : World} (hb : BxW g bxs w) (_hf : FzOK g w) {T : Ty} {v : AV} {x : T.den} (h : conv bxs T v = some x) {cs : List Value} (hg : GR g v cs) : CR g.fz T x cs := by
  unfold conv at h
  split at h
  · split at h
    · rename_i S y e
      subst e
      simp only [Option.some.injEq] at h
      subst h
      exact hg
    · cases h
  · split at h
    · rename_i S l e
      subst e
      simp only [Option.some.injEq] at h
      subst h
      obtain ⟨blk, off, cs', rfl, h1, h2⟩ := hg
      exact ⟨_, rfl, .inr ⟨blk, off, l.length, cs', rfl, Nat.le_refl _, h1, h2⟩⟩
    · cases h
  · split at h
    · rename_i S l e
      subst e
      simp only [Option.some.injEq] at h
      subst h
      obtain ⟨blk, off, cap, cs', rfl, h0, h1, h2⟩ := hg
      exact ⟨_, rfl, .inr ⟨blk, off, cap, cs', rfl, h0, h1, h2⟩⟩
    · cases h
  · split at h
    · simp only [Option.some.injEq] at h
      subst h
      have : cs = [.slice none 0 0] := hg
      subst this
      exact ⟨_, rfl, .inl ⟨rfl, rfl⟩⟩
    · cases h
  · rename_i b wn
    split at h
    · rename_i S l hfd
      split at h
      · rename_i e
        subst e
        simp only [Option.some.injEq] at h
        subst h
        obtain ⟨gb, v, e1, e2, rfl, hw⟩ := hg
        obtain ⟨gb', k1, k2⟩ := hb.box _ _ hfd
        rw [e1] at k1
        cases k1
        refine ⟨v, rfl, ?_⟩
        obtain ⟨_, hsz, hlen, hcap, hr⟩ := k2
        -- the content lies where it is kept for good
        have hcont : ∀ blk, gb.blk = some blk → ∃ cs, Elems (CR g.fz S) l cs ∧ Fz g.fz blk gb.off cs := by
          intro blk hblk
          cases ho : gb.own with
          | false => simp only [hblk, ho] at hr; obtain ⟨_, _, cs, k3, k4⟩ := hr; exact ⟨cs, k3, k4⟩
          | true => simp only [hblk, ho] at hr; obtain ⟨cells, cs, _, _, k3, _, _, k6⟩ := hr; exact ⟨cs, k3, (k6 trivial).1⟩
        cases hblk : gb.blk with
        | none =>
          simp only [hblk] at hr
          obtain ⟨rfl, _⟩ := hr
          cases wn with
          | whole => simp only [WinR, hblk] at hw; exact .inl ⟨rfl, hw.1⟩
          | part off n full => simp only [WinR, hblk] at hw; exact .inl ⟨by simp [Win.app], hw.2.2.2⟩
        | some blk =>
          obtain ⟨cs, k3, k4⟩ := hcont blk hblk
          cases wn with
          | whole =>
            simp only [WinR, hblk] at hw
            exact .inr ⟨blk, gb.off, gb.cap, cs, by rw [hw, hlen]; rfl, by show l.length ≤ _; omega, k3, k4⟩
          | part off n full =>
            simp only [WinR, hblk] at hw
            obtain ⟨w1, a, c, rfl, wsp, w2, w3, w4, w5⟩ := hw
            have hlw : (Win.app (.part off n full) l).length = n := by simp only [Win.app, List.length_take, List.length_drop]; omega
            by_cases hn : n = 0
            · have he : Win.app (.part off n full) l = [] := List.eq_nil_of_length_eq_zero (by rw [hlw, hn])
              rw [he]
              exact .inr ⟨a.block, a.off, c, [], by obtain ⟨ab, ao, as⟩ := a; simp only at wsp; subst wsp; simp [hn], by simp, rfl, fun j v e => by simp at e⟩
            · have ha : a = ⟨blk, gb.off + off * gb.sz, none⟩ := by
                rcases w5 with h0 | h0
                · omega
                · exact h0
              have hs1 := k3.split (n := S.size) (fun x cs h => h.length) off (by omega)
              have hs2 := hs1.2.split (n := S.size) (fun x cs h => h.length) n (by rw [List.length_drop]; omega)
              refine .inr ⟨blk, gb.off + off * gb.sz, c, (cs.drop (off * S.size)).take (n * S.size), by rw [hlw, ha], by rw [hlw]; exact w2, hs2.1, ?_⟩
              intro j v e
              rw [List.getElem?_take] at e
              split at e
              · rw [List.getElem?_drop] at e
                rw [hsz, Nat.add_assoc]
                exact k4 _ v e
              · cases e
      · cases h
    · cases h
  · cases h

theorem rd_ok {g : Gh} {bxs : Bxs} {w : World} (hb : BxW g bxs w) (hf : FzOK g w) : ∀ {T : Ty} {gs : List AV} {x : T.den} {rest : List AV}, T.rd bxs gs = some (x, rest) → ∀ {cs : List Value}, GsR g gs cs →
    ∃ c1 c2, cs = c1 ++ c2 ∧ CR g.fz T x c1 ∧ GsR g rest c2
  | .unit, gs, x, rest, h, cs, hg => by
    simp only [Ty.rd, Option.some.injEq, Prod.mk.injEq] at h
    obtain ⟨_, rfl⟩ := h
    exact ⟨[], cs, rfl, rfl, hg⟩
  | .pair a b, gs, x, rest, h, cs, hg => by
    simp only [Ty.rd] at h
    split at h
    · rename_i y l1 h1
      split at h
      · rename_i z l2 h2
        simp only [Option.some.injEq, Prod.mk.injEq] at h
        obtain ⟨rfl, rfl⟩ := h
        obtain ⟨c1, c2, rfl, k1, k2⟩ := rd_ok hb hf h1 hg
        obtain ⟨c3, c4, rfl, k3, k4⟩ := rd_ok hb hf h2 k2
        exact ⟨c1 ++ c3, c4, by simp, ⟨c1, c3, rfl, k1, k3⟩, k4⟩
      · cases h
    · cases h
  | .int k, gs, x, rest, h, cs, hg => one (T := .int k) hb hf (by intro l; cases l <;> rfl) h hg
  | .bool, gs, x, rest, h, cs, hg => one (T := .bool) hb hf (by intro l; cases l <;> rfl) h hg
  | .str, gs, x, rest, h, cs, hg => one (T := .str) hb hf (by intro l; cases l <;> rfl) h hg
  | .sl e, gs, x, rest, h, cs, hg => one (T := .sl e) hb hf (by intro l; cases l <;> rfl) h hg
  | .arr n e, gs, x, rest, h, cs, hg => one (T := .arr n e) hb hf (by intro l; cases l <;> rfl) h hg
where
  one {g : Gh} {bxs : Bxs} {w : World} (hb : BxW g bxs w) (hf : FzOK g w) {T : Ty} (hT : ∀ l, T.rd bxs l = match l with
      | [] => none
      | v :: l => match conv bxs T v with
        | some x => some (x, l)
        | none => none) {gs : List AV} {x : T.den} {rest : List AV} (h : T.rd bxs gs = some (x, rest)) {cs : List Value} (hg : GsR g gs cs) :
      ∃ c1 c2, cs = c1 ++ c2 ∧ CR g.fz T x c1 ∧ GsR g rest c2 := by
    rw [hT] at h
    cases gs with
    | nil => cases h
    | cons v l =>
      simp only at h
      split at h
      · rename_i y hy
        simp only [Option.some.injEq, Prod.mk.injEq] at h
        obtain ⟨rfl, rfl⟩ := h
        obtain ⟨c1, c2, e, k1, k2⟩ := hg
        exact ⟨c1, c2, e, conv_ok hb hf hy k1, k2⟩
      · cases h

theorem rd_all {g : Gh} {bxs : Bxs} {w : World} (hb : BxW g bxs w) (hf : FzOK g w) {T : Ty} {gs : List AV} {x : T.den} (h : T.rd bxs gs = some (x, [])) {cs : List Value} (hg : GsR g gs cs) : CR g.fz T x cs := by
  obtain ⟨c1, c2, rfl, h1, h2⟩ := rd_ok hb hf h hg
  have : c2 = [] := h2
  subst this
  simpa using h1

theorem put_ok {g : Gh} {bxs : Bxs} {w : World} (hb : BxW g bxs w) (hf : FzOK g w) {T : Ty} {x y : T.den} {o : Nat} {new : List AV} (h : T.put bxs x o new = some y) {cs ns : List Value} (hx : CR g.fz T x cs)
    (hn : GsR g new ns) : o + ns.length ≤ cs.length ∧ CR g.fz T y (cs.take o ++ ns ++ cs.drop (o + ns.length)) := by
  unfold Ty.put at h
  split at h
  · rename_i gs h1
    split at h
    · rename_i z h2
      simp only [Option.some.injEq] at h
      subst h
      obtain ⟨k1, k2⟩ := putGs_rel hn h1 (gsR_gs hx)
      exact ⟨k1, rd_all hb hf h2 k2⟩
    · cases h
  · cases h

theorem take_mid {α : Type} (p a c b d : List α) (k : Nat) (hk : k ≤ c.length) : (p ++ ((a ++ (c ++ b)) ++ d)).take (p.length + (a.length + k)) = p ++ (a ++ c.take k) := by
  have h1 : p ++ ((a ++ (c ++ b)) ++ d) = p ++ (a ++ (c.take k ++ (c.drop k ++ (b ++ d)))) := by
    rw [← List.append_assoc (c.take k), List.take_append_drop]
    simp
  rw [h1, ← List.append_assoc, ← List.append_assoc, List.take_left' (by simp; omega)]
  simp

theorem drop_mid {α : Type} (p a c b d : List α) (k : Nat) (hk : k ≤ c.length) : (p ++ ((a ++ (c ++ b)) ++ d)).drop (p.length + (a.length + k)) = c.drop k ++ b ++ d := by
  have h1 : p ++ ((a ++ (c ++ b)) ++ d) = p ++ (a ++ (c.take k ++ (c.drop k ++ (b ++ d)))) := by
    rw [← List.append_assoc (c.take k), List.take_append_drop]
    simp
  rw [h1, ← List.append_assoc, ← List.append_assoc, List.drop_left' (by simp; omega)]
  simp

/-- A place of a box, replaced. -/
theorem putAt_ok {g : Gh} {bxs : Bxs} {w : World} (hb : BxW g bxs w) (hf : FzOK g w) {new : List AV} {ns : List Value} (hn : GsR g new ns) : ∀ {p : List Stp} {gs gs' : List AV} {off : Nat}, putAt bxs gs off p new = some gs' →
    ∀ {cs : List Value}, GsR g gs cs → (∀ s ∈ p, 0 ≤ s.i ∧ s.i < s.n) →
    off + stepsOff p + ns.length ≤ cs.length ∧ GsR g gs' (cs.take (off + stepsOff p) ++ ns ++ cs.drop (off + stepsOff p + ns.length))
  | [], gs, gs', off, h, cs, hg, _ => by simpa [stepsOff] using putGs_rel hn (show putGs gs off new = some gs' by simpa [putAt] using h) hg
  | s :: p, gs, gs', off, h, cs, hg, hp => by
    simp only [putAt] at h
    split at h
    · rename_i n T l gs1 hd
      split at h
      · rename_i hns
        split at h
        · rename_i es hes
          split at h
          · rename_i y hy
            obtain ⟨h1, h2⟩ := dropGs_rel hd hg
            obtain ⟨c1, c2, e12, k1, k2⟩ := h2
            obtain ⟨q0, q1⟩ := hp s (by simp)
            have hT : ∀ (x : T.den) (cs : List Value), CR g.fz T x cs → cs.length = T.size := fun x cs h => h.length
            have hi : s.i.toNat < l.length := by have := k1.1; omega
            obtain ⟨a, c, b, rfl, ha, hc⟩ := arr_get (fz := g.fz) k1 q0 (by omega)
            obtain ⟨h3, h4⟩ := putAt_ok hb hf hn hes (gsR_gs hc) (fun s hs => hp s (List.mem_cons_of_mem _ hs))
            have h5 := rd_all hb hf hy h4
            -- the array with the element replaced
            have hlc : c.length = T.size := hc.length
            obtain ⟨a', b', c0, ea, ha', _, hset⟩ := k1.2.set hT s.i.toNat hi h5
            have hcl : c0.length = T.size := by
              have e1 := congrArg List.length ea
              have e2 := (k1.2.split hT s.i.toNat (by omega)).1
              have e3 := hset.length hT
              simp only [List.length_append, List.length_set, List.length_take, List.length_drop] at e1 e3
              have e4 := k1.2.length hT
              simp only [List.length_append] at e4
              omega
            obtain ⟨rfl, e2⟩ := List.append_inj ea (by rw [ha, ha'])
            obtain ⟨rfl, rfl⟩ := List.append_inj e2 (by rw [hlc, hcl])
            have h6 : CR g.fz (.arr n T) (l.set s.i.toNat y) (a ++ ((c.take (s.o + stepsOff p) ++ ns ++ c.drop (s.o + stepsOff p + ns.length)) ++ b)) := ⟨by simpa using k1.1, hset⟩
            have h7 : GsR g [.val (.arr n T) (l.set s.i.toNat y)] (a ++ ((c.take (s.o + stepsOff p) ++ ns ++ c.drop (s.o + stepsOff p + ns.length)) ++ b)) := ⟨_, [], by simp, h6, rfl⟩
            obtain ⟨h8, h9⟩ := putGs_rel h7 h hg
            have hlen : (a ++ ((c.take (s.o + stepsOff p) ++ ns ++ c.drop (s.o + stepsOff p + ns.length)) ++ b)).length = (a ++ (c ++ b)).length := by
              simp only [List.length_append, List.length_take, List.length_drop]
              omega
            rw [hlen] at h8 h9
            have hcs : cs = cs.take off ++ ((a ++ (c ++ b)) ++ c2) := by rw [← e12, List.take_append_drop]
            have hto : (cs.take off).length = off := by rw [List.length_take]; omega
            rw [stepsOff_cons]
            refine ⟨?_, ?_⟩
            · have := congrArg List.length hcs
              simp only [List.length_append] at this
              rw [← hns.2, ← ha]
              omega
            · have hd2 : cs.drop (off + (a ++ (c ++ b)).length) = c2 := by
                rw [← List.drop_drop, e12, List.drop_left]
              rw [hd2] at h9
              have t1 : cs.take (off + (s.i.toNat * s.sz + s.o + stepsOff p)) = cs.take off ++ (a ++ c.take (s.o + stepsOff p)) := by
                have h := take_mid (cs.take off) a c b c2 (s.o + stepsOff p) (by omega)
                rw [← hcs, hto] at h
                rw [← h, ← hns.2, ← ha]
                congr 1
                omega
              have t2 : cs.drop (off + (s.i.toNat * s.sz + s.o + stepsOff p) + ns.length) = c.drop (s.o + stepsOff p + ns.length) ++ b ++ c2 := by
                have h := drop_mid (cs.take off) a c b c2 (s.o + stepsOff p + ns.length) (by omega)
                rw [← hcs, hto] at h
                rw [← h, ← hns.2, ← ha]
                congr 1
                omega
              rw [t1, t2]
              simpa [List.append_assoc] using h9
          · cases h
        · cases h
      · cases h
    · cases h

end
end Go.V
