/- Cuts of slices and strings; lengths. -/
import Derived.Test.YtccdkoimpoockaaDoorVOps6
set_option linter.all false
set_option linter.unusedVariables false
set_option linter.unusedSectionVars false
set_option linter.unusedSimpArgs false
namespace Go.V
variable [Codes]
section
variable {C : Cfg} {P : Program}

/-- A bound that may be missing, and its value. -/
def LoR (i : Option Int) (v : Option Value) : Prop :=
  match i, v with
  | none, none => True
  | some i, some v => ∃ k, v = .int k i
  | _, _ => False

theorem run_bounds {w : World} {isS : Bool} {len cap : Nat} {lo hi : Option Int} {lo' hi' : Option Value} (h1 : LoR lo lo') (h2 : LoR hi hi') (hc : cutOk len lo hi = true) (hl : len ≤ cap) :
    (Instr.sliceBounds isS len cap lo' hi' none).run P w = .ok (cutFrom lo, cutFrom lo + cutLen len lo hi, cap) w ∧ cutFrom lo + cutLen len lo hi ≤ len := by
  cases lo with
  | none =>
    cases lo' with
    | some _ => exact h1.elim
    | none =>
      cases hi with
      | none =>
        cases hi' with
        | some _ => exact h2.elim
        | none => refine ⟨?_, by simp [cutFrom, cutLen, cutHi]⟩; simp [Instr.sliceBounds, cutFrom, cutLen, cutHi]
      | some b =>
        cases hi' with
        | none => exact h2.elim
        | some v =>
          obtain ⟨k, rfl⟩ := h2
          simp only [cutOk, Bool.and_eq_true, decide_eq_true_eq] at hc
          refine ⟨?_, by simp only [cutFrom, cutLen, cutHi, Option.getD_none, Int.toNat_zero]; omega⟩
          simp [Instr.sliceBounds, cutFrom, cutLen, cutHi, run_sliceBound w k b cap _ hc.1 (by omega)]
  | some a =>
    cases lo' with
    | none => exact h1.elim
    | some v =>
      obtain ⟨k, rfl⟩ := h1
      cases hi with
      | none =>
        cases hi' with
        | some _ => exact h2.elim
        | none =>
          simp only [cutOk, Bool.and_eq_true, decide_eq_true_eq] at hc
          refine ⟨?_, by simp only [cutFrom, cutLen, cutHi, Option.getD_some]; omega⟩
          simp [Instr.sliceBounds, cutFrom, cutLen, cutHi, run_sliceBound w k a len _ hc.1 (by omega)]
          omega
      | some b =>
        cases hi' with
        | none => exact h2.elim
        | some v =>
          obtain ⟨k', rfl⟩ := h2
          simp only [cutOk, Bool.and_eq_true, decide_eq_true_eq] at hc
          refine ⟨?_, by simp only [cutFrom, cutLen, cutHi, Option.getD_some]; omega⟩
          simp [Instr.sliceBounds, cutFrom, cutLen, cutHi, run_sliceBound w k' b cap _ (show 0 ≤ b by omega) (by omega), run_sliceBound w k a b.toNat _ hc.1.1 (by omega)]
          omega

theorem run_bounds3 {w : World} {len cap : Nat} {lo : Option Int} {h : Int} {lo' hi' mx' : Option Value} (h1 : LoR lo lo') (h2 : LoR (some h) hi') (h3 : LoR (some h) mx') (hc : cutOk len lo (some h) = true) (hl : len ≤ cap) :
    (Instr.sliceBounds true len cap lo' hi' mx').run P w = .ok (cutFrom lo, cutFrom lo + cutLen len lo (some h), cutFrom lo + cutLen len lo (some h)) w ∧ cutFrom lo + cutLen len lo (some h) ≤ len := by
  cases hi' with
  | none => exact h2.elim
  | some v =>
    obtain ⟨k, rfl⟩ := h2
    cases mx' with
    | none => exact h3.elim
    | some v =>
      obtain ⟨k', rfl⟩ := h3
      cases lo with
      | none =>
        cases lo' with
        | some _ => exact h1.elim
        | none =>
          simp only [cutOk, Bool.and_eq_true, decide_eq_true_eq] at hc
          refine ⟨?_, by simp only [cutFrom, cutLen, cutHi, Option.getD_none, Int.toNat_zero]; omega⟩
          simp [Instr.sliceBounds, cutFrom, cutLen, cutHi, run_sliceBound w k' h cap _ hc.1 (by omega), run_sliceBound w k h h.toNat _ hc.1 (by omega)]
      | some a =>
        cases lo' with
        | none => exact h1.elim
        | some v =>
          obtain ⟨k2, rfl⟩ := h1
          simp only [cutOk, Bool.and_eq_true, decide_eq_true_eq] at hc
          refine ⟨?_, by simp only [cutFrom, cutLen, cutHi, Option.getD_some]; omega⟩
          simp [Instr.sliceBounds, cutFrom, cutLen, cutHi, run_sliceBound w k' h cap _ (show 0 ≤ h by omega) (by omega), run_sliceBound w k h h.toNat _ (show 0 ≤ h by omega) (by omega), run_sliceBound w k2 a h.toNat _ hc.1.1 (by omega)]
          omega

theorem cutL_eq {α : Type} (l : List α) (lo hi : Option Int) (hc : cutOk l.length lo hi = true) : cutL l lo hi = (l.drop (cutFrom lo)).take (cutLen l.length lo hi) := by
  cases lo <;> cases hi <;> simp only [cutL, cutFrom, cutLen, cutHi, Option.getD_none, Option.getD_some, Int.toNat_zero, List.drop_zero, Nat.sub_zero]
  · rw [List.take_of_length_le (Nat.le_refl _)]
  · rw [List.take_of_length_le (by rw [List.length_drop]; omega)]
  · rw [List.drop_take]

theorem cutL_len {α : Type} (l : List α) (lo hi : Option Int) (hc : cutOk l.length lo hi = true) (hb : cutFrom lo + cutLen l.length lo hi ≤ l.length) : (cutL l lo hi).length = cutLen l.length lo hi := by
  rw [cutL_eq l lo hi hc, List.length_take, List.length_drop]
  omega

theorem run_slice_sl {w : World} {t e : Nat} {i : TypeInfo} (hd : P.underlying t = some (.slice e)) (hi : P.info? e = some i) {a : Option Addr} {n cap : Nat} {lo' hi' mx' : Option Value} {l h m : Nat}
    (hb : (Instr.sliceBounds true n cap lo' hi' mx').run P w = .ok (l, h, m) w) :
    (Instr.sliceAt t (.slice a n cap) lo' hi' mx').run P w = .ok (.slice (if m = l then a else a.map (·.add (l * i.size))) (h - l) (m - l)) w := by
  simp [Instr.sliceAt, Instr.slice, run_underlying hd, hb, run_sizeOf hi]

theorem sliceV_ok (hC : CfgOK C P) {g : Gh} {s : St} {tm : Array Value} {tms : List (Array Value)} {w : World} (hs : StR g s tm tms w) {t : Nat} {x v : AV} {lo hi mx : Option Int} {e : Eff} (h : sliceV C s.bxs t x lo hi mx = some (true, v, e)) {a : Value}
    (ha : VR g x a) {lo' hi' mx' : Option Value} (h1 : LoR lo lo') (h2 : LoR hi hi') (h3 : LoR mx mx') : e = .none ∧ ∃ z, (Instr.sliceAt t a lo' hi' mx').run P w = .ok z w ∧ VR g v z := by
  unfold sliceV at h
  split at h
  · rename_i hu
    split at h
    · rename_i s'
      simp only [okIf, Option.some.injEq, Prod.mk.injEq] at h
      obtain ⟨hc, rfl, rfl⟩ := h
      cases mx' with
      | some _ => exact h3.elim
      | none =>
        have ha' : [a] = [Value.string s'] := ha
        simp only [List.cons.injEq, and_true] at ha'
        subst ha'
        obtain ⟨hb, _⟩ := run_bounds (P := P) (w := w) (isS := false) h1 h2 hc (Nat.le_refl _)
        refine ⟨rfl, .string (cutS s' lo hi), ?_, rfl⟩
        have e1 : cutFrom lo + cutLen s'.size lo hi = cutHi s'.size hi := by
          cases lo <;> cases hi <;> simp only [cutOk, Bool.and_eq_true, decide_eq_true_eq] at hc <;> simp only [cutFrom, cutLen, cutHi, Option.getD_none, Option.getD_some, Int.toNat_zero] <;> omega
        simp only [Instr.sliceAt, Instr.slice, Sem.run_bind, run_underlying (hC.str _ hu), Result.andThen_ok, Option.isSome_none, Bool.false_eq_true, if_false, hb, Sem.run_pure, e1]
        rfl
    · cases h
  · rename_i e' hu
    have hd := hC.sl _ _ hu
    split at h
    · cases h
    · rename_i hz
      obtain ⟨inf, hinf, his, _⟩ := hC.size _ hz
      split at h
      · rename_i b wn
        split at h
        · rename_i T fz l hb
          split at h
          · rename_i hT
            have ha' : GR g (.row b wn) [a] := ha
            obtain ⟨gb, v0, e1, e2, e3, hw⟩ := ha'
            simp only [List.cons.injEq, and_true] at e3
            subst e3
            obtain ⟨gb', k1, k2⟩ := hs.bxs.box _ _ hb
            rw [e1] at k1
            cases k1
            have hlen : gb.len = l.length := k2.2.2.1
            have hcap : gb.len ≤ gb.cap := k2.2.2.2.1
            have hsz : gb.sz = inf.size := by rw [k2.2.1, hT, his]
            split at h
            · cases mx' with
              | some _ => exact h3.elim
              | none =>
                split at h
                · simp only [okIf, Option.some.injEq, Prod.mk.injEq] at h
                  obtain ⟨hc, rfl, rfl⟩ := h
                  cases hblk : gb.blk with
                  | none =>
                    simp only [WinR, hblk] at hw
                    obtain ⟨rfl, h0⟩ := hw
                    have hl0 : l.length = 0 := by omega
                    rw [hl0] at hc
                    obtain ⟨hbd, hle⟩ := run_bounds (P := P) (w := w) (isS := true) h1 h2 hc (Nat.le_refl 0)
                    refine ⟨rfl, _, run_slice_sl hd hinf hbd, gb, _, e1, e2, rfl, ?_⟩
                    simp only [WinR, hblk, hl0]
                    have h4 : cutFrom lo = 0 := by omega
                    have h5 : cutLen 0 lo hi = 0 := by omega
                    simp [h4, h5, h0]
                  | some blk =>
                    simp only [WinR, hblk] at hw
                    subst hw
                    rw [← hlen] at hc ⊢
                    obtain ⟨hbd, hle⟩ := run_bounds (P := P) (w := w) (isS := true) h1 h2 hc hcap
                    refine ⟨rfl, _, run_slice_sl hd hinf hbd, gb, _, e1, e2, rfl, ?_⟩
                    simp only [WinR, hblk, Nat.add_sub_cancel_left]
                    by_cases hm : gb.cap = cutFrom lo
                    · rw [if_pos hm]
                      exact ⟨hle, _, _, rfl, rfl, by omega, (fun h => nomatch h), by omega, .inl (by omega)⟩
                    · rw [if_neg hm, Option.map_some, add_lit']
                      exact ⟨hle, _, _, rfl, rfl, by omega, (fun h => nomatch h), by omega, .inr (by rw [hsz])⟩
                · rename_i off n full
                  simp only [okIf, Option.some.injEq, Prod.mk.injEq] at h
                  obtain ⟨hc, rfl, rfl⟩ := h
                  cases hblk : gb.blk with
                  | none =>
                    simp only [WinR, hblk] at hw
                    obtain ⟨rfl, rfl, h0, rfl⟩ := hw
                    obtain ⟨hbd, hle⟩ := run_bounds (P := P) (w := w) (isS := true) h1 h2 hc (Nat.le_refl 0)
                    refine ⟨rfl, _, run_slice_sl hd hinf hbd, gb, _, e1, e2, rfl, ?_⟩
                    simp only [WinR, hblk]
                    have h4 : cutFrom lo = 0 := by omega
                    have h5 : cutLen 0 lo hi = 0 := by omega
                    simp [h4, h5, h0]
                  | some blk =>
                    simp only [WinR, hblk] at hw
                    obtain ⟨w1, a0, c, rfl, wsp, w2, w3, w4, w5⟩ := hw
                    obtain ⟨hbd, hle⟩ := run_bounds (P := P) (w := w) (isS := true) h1 h2 hc w2
                    refine ⟨rfl, _, run_slice_sl hd hinf hbd, gb, _, e1, e2, rfl, ?_⟩
                    simp only [WinR, hblk, Nat.add_sub_cancel_left]
                    by_cases hm : c = cutFrom lo
                    · rw [if_pos hm]
                      exact ⟨by omega, _, _, rfl, wsp, by omega, (fun h => nomatch h), by omega, .inl (by omega)⟩
                    · rw [if_neg hm, Option.map_some]
                      have ha0 : a0 = ⟨blk, gb.off + off * gb.sz, none⟩ := by
                        rcases w5 with h0 | h0
                        · omega
                        · exact h0
                      subst ha0
                      rw [add_lit']
                      exact ⟨by omega, _, _, rfl, rfl, by omega, (fun h => nomatch h), by omega, .inr (by rw [Nat.add_mul, hsz, Nat.add_assoc])⟩
            · rename_i m
              split at h
              · rename_i h'
                simp only [okIf, Option.some.injEq, Prod.mk.injEq, Bool.and_eq_true, decide_eq_true_eq] at h
                obtain ⟨⟨hc, hhm⟩, rfl, rfl⟩ := h
                subst hhm
                cases hblk : gb.blk with
                | none =>
                  simp only [WinR, hblk] at hw
                  obtain ⟨rfl, h0⟩ := hw
                  have hl0 : l.length = 0 := by omega
                  rw [hl0] at hc
                  obtain ⟨hbd, hle⟩ := run_bounds3 (P := P) (w := w) h1 h2 h3 hc (Nat.le_refl 0)
                  refine ⟨rfl, _, run_slice_sl hd hinf hbd, gb, _, e1, e2, rfl, ?_⟩
                  simp only [WinR, hblk, hl0]
                  have h4 : cutFrom lo = 0 := by omega
                  have h5 : cutLen 0 lo (some h') = 0 := by omega
                  simp [h4, h5, h0]
                | some blk =>
                  simp only [WinR, hblk] at hw
                  subst hw
                  rw [← hlen] at hc ⊢
                  obtain ⟨hbd, hle⟩ := run_bounds3 (P := P) (w := w) h1 h2 h3 hc hcap
                  refine ⟨rfl, _, run_slice_sl hd hinf hbd, gb, _, e1, e2, rfl, ?_⟩
                  simp only [WinR, hblk, Nat.add_sub_cancel_left]
                  by_cases hm : cutFrom lo + cutLen gb.len lo (some h') = cutFrom lo
                  · rw [if_pos hm]
                    exact ⟨hle, _, _, rfl, rfl, Nat.le_refl _, fun _ => rfl, by omega, .inl (by omega)⟩
                  · rw [if_neg hm, Option.map_some, add_lit']
                    exact ⟨hle, _, _, rfl, rfl, Nat.le_refl _, fun _ => rfl, by omega, .inr (by rw [hsz])⟩
              · cases h
          · cases h
        · cases h
      · rename_i hx
        split at h
        · rename_i T l hv
          split at h
          · rename_i hT
            split at h
            · cases mx' with
              | some _ => exact h3.elim
              | none =>
                simp only [okIf, Option.some.injEq, Prod.mk.injEq] at h
                obtain ⟨hc, rfl, rfl⟩ := h
                obtain ⟨ad, cap, rfl, q1, q2⟩ := viewT_ok hs hv ha
                obtain ⟨hbd, hle⟩ := run_bounds (P := P) (w := w) (isS := true) h1 h2 hc q1
                refine ⟨rfl, _, run_slice_sl hd hinf hbd, _, rfl, ?_⟩
                have hcl := cutL_len l lo hi hc hle
                rcases q2 with ⟨rfl, rfl, rfl⟩ | ⟨blk, off, cs, rfl, q3, q4, q5⟩
                · have h4 : cutFrom lo = 0 := by simp only [List.length_nil] at hle; omega
                  have h5 : cutLen 0 lo hi = 0 := by simp only [List.length_nil] at hle; omega
                  refine .inl ⟨List.eq_nil_of_length_eq_zero (by rw [hcl]; exact h5), ?_⟩
                  simp [h4, h5]
                · have hfz := q5 (fun b wn e => hx b wn e)
                  rw [Nat.add_sub_cancel_left, ← hcl]
                  by_cases hm : cap = cutFrom lo
                  · rw [if_pos hm]
                    have h0 : cutL l lo hi = [] := List.eq_nil_of_length_eq_zero (by rw [hcl]; omega)
                    rw [h0]
                    exact .inr ⟨blk, off, _, [], rfl, by simp, rfl, fun j v e => by simp at e⟩
                  · rw [if_neg hm, Option.map_some, add_lit']
                    refine .inr ⟨blk, _, _, (cs.drop (cutFrom lo * T.size)).take (cutLen l.length lo hi * T.size), rfl, by rw [hcl]; omega, ?_, ?_⟩
                    · rw [cutL_eq l lo hi hc]
                      have hT' : ∀ (x : T.den) (cs : List Value), CR g.fz T x cs → cs.length = T.size := fun x cs h => h.length
                      have hs1 := q3.split hT' (cutFrom lo) (by omega)
                      exact (hs1.2.split hT' (cutLen l.length lo hi) (by rw [List.length_drop]; omega)).1
                    · intro j v e
                      rw [List.getElem?_take] at e
                      split at e
                      · rw [List.getElem?_drop] at e
                        rw [his, ← hT, Nat.add_assoc]
                        exact hfz _ v e
                      · cases e
            · rename_i m
              split at h
              · rename_i h'
                simp only [okIf, Option.some.injEq, Prod.mk.injEq, Bool.and_eq_true, decide_eq_true_eq] at h
                obtain ⟨⟨hc, hhm⟩, rfl, rfl⟩ := h
                subst hhm
                obtain ⟨ad, cap, rfl, q1, q2⟩ := viewT_ok hs hv ha
                obtain ⟨hbd, hle⟩ := run_bounds3 (P := P) (w := w) h1 h2 h3 hc q1
                refine ⟨rfl, _, run_slice_sl hd hinf hbd, _, rfl, ?_⟩
                have hcl := cutL_len l lo (some h') hc hle
                rcases q2 with ⟨rfl, rfl, rfl⟩ | ⟨blk, off, cs, rfl, q3, q4, q5⟩
                · have h4 : cutFrom lo = 0 := by simp only [List.length_nil] at hle; omega
                  have h5 : cutLen 0 lo (some h') = 0 := by simp only [List.length_nil] at hle; omega
                  refine .inl ⟨List.eq_nil_of_length_eq_zero (by rw [hcl]; exact h5), ?_⟩
                  simp [h4, h5]
                · have hfz := q5 (fun b wn e => hx b wn e)
                  rw [Nat.add_sub_cancel_left, ← hcl]
                  by_cases hm : cutFrom lo + cutLen l.length lo (some h') = cutFrom lo
                  · rw [hcl, if_pos hm]
                    have h0 : cutL l lo (some h') = [] := List.eq_nil_of_length_eq_zero (by rw [hcl]; omega)
                    have h5 : cutLen l.length lo (some h') = 0 := by omega
                    rw [h0, h5]
                    exact .inr ⟨blk, off, _, [], rfl, by simp, rfl, fun j v e => by simp at e⟩
                  · rw [hcl, if_neg hm, Option.map_some, add_lit']
                    refine .inr ⟨blk, _, _, (cs.drop (cutFrom lo * T.size)).take (cutLen l.length lo (some h') * T.size), by rw [hcl], by rw [hcl]; omega, ?_, ?_⟩
                    · rw [cutL_eq l lo (some h') hc]
                      have hT' : ∀ (x : T.den) (cs : List Value), CR g.fz T x cs → cs.length = T.size := fun x cs h => h.length
                      have hs1 := q3.split hT' (cutFrom lo) (by omega)
                      exact (hs1.2.split hT' (cutLen l.length lo (some h')) (by rw [List.length_drop]; omega)).1
                    · intro j v e
                      rw [List.getElem?_take] at e
                      split at e
                      · rw [List.getElem?_drop] at e
                        rw [his, ← hT, Nat.add_assoc]
                        exact hfz _ v e
                      · cases e
              · cases h
          · cases h
        · cases h
  · rename_i n e' hu
    have hd := hC.arr _ _ _ hu
    split at h
    · rename_i b off
      split at h
      · rename_i h1s
        cases mx' with
        | some _ => exact h3.elim
        | none =>
          simp only [okIf, Option.some.injEq, Prod.mk.injEq] at h
          obtain ⟨hc, rfl, rfl⟩ := h
          obtain ⟨inf, hinf, his, _⟩ := hC.size e' (by omega)
          have ha' : GR g (.ptr b off []) [a] := ha
          obtain ⟨gb, blk, e1, e2, e3, e4, e5⟩ := ha'
          simp only [List.cons.injEq, and_true, stepsOff, Nat.add_zero] at e5
          subst e5
          obtain ⟨hbd, hle⟩ := run_bounds (P := P) (w := w) (isS := false) h1 h2 hc (Nat.le_refl n)
          refine ⟨rfl, .slice (some (if n = cutFrom lo then ⟨blk, off, none⟩ else (⟨blk, off, none⟩ : Addr).add (cutFrom lo * inf.size))) (cutLen n lo hi) (n - cutFrom lo), ?_, ?_⟩
          · simp [Instr.sliceAt, run_underlying hd, Instr.sureAddr, hbd, run_sizeOf hinf]
          · refine ⟨gb, blk, n - cutFrom lo, e1, e2, e3, by omega, by omega, _, rfl, ?_, ?_⟩
            · split <;> simp [add_lit']
            · by_cases hm : n = cutFrom lo
              · exact .inl (by omega)
              · rw [if_neg hm, add_lit', his, h1s, Nat.mul_one]
                exact .inr rfl
      · cases h
    · cases h
  · cases h

end
end Go.V
