/- Stores into boxes. -/
import Derived.Test.YtccdkoimpoockaaDoorVOps2
set_option linter.all false
set_option linter.unusedVariables false
set_option linter.unusedSectionVars false
set_option linter.unusedSimpArgs false
namespace Go.V
variable [Codes]
section
variable {C : Cfg} {P : Program}

theorem splice_get {α : Type} (l ns : List α) (k j : Nat) (h : k + ns.length ≤ l.length) :
    (l.take k ++ ns ++ l.drop (k + ns.length))[j]? = if j < k then l[j]? else if j < k + ns.length then ns[j - k]? else l[j]? := by
  have hk : (l.take k).length = k := by rw [List.length_take]; omega
  by_cases h1 : j < k
  · rw [if_pos h1, List.append_assoc, List.getElem?_append_left (by omega), List.getElem?_take, if_pos h1]
  · rw [if_neg h1]
    by_cases h2 : j < k + ns.length
    · rw [if_pos h2, List.getElem?_append_left (by rw [List.length_append]; omega), List.getElem?_append_right (by omega), hk]
    · rw [if_neg h2, List.getElem?_append_right (by rw [List.length_append]; omega), List.length_append, hk, List.getElem?_drop]
      congr 1
      omega

theorem splice_sub {α : Type} {cs cells ns : List α} {off k : Nat} (h : ∀ j v, cs[j]? = some v → cells[off + j]? = some v) (h1 : k + ns.length ≤ cs.length) (h2 : off + k + ns.length ≤ cells.length) :
    ∀ j v, (cs.take k ++ ns ++ cs.drop (k + ns.length))[j]? = some v → (cells.take (off + k) ++ ns ++ cells.drop (off + k + ns.length))[off + j]? = some v := by
  intro j v e
  rw [splice_get _ _ _ _ h1] at e
  rw [splice_get _ _ _ _ h2]
  by_cases c1 : j < k
  · rw [if_pos c1] at e; rw [if_pos (by omega)]; exact h j v e
  · rw [if_neg c1] at e
    rw [if_neg (by omega)]
    by_cases c2 : j < k + ns.length
    · rw [if_pos c2] at e; rw [if_pos (by omega), show off + j - (off + k) = j - k by omega]; exact e
    · rw [if_neg c2] at e; rw [if_neg (by omega)]; exact h j v e

theorem splice_inner {α : Type} (a c b ns : List α) (o : Nat) (h : o + ns.length ≤ c.length) :
    a ++ ((c.take o ++ ns ++ c.drop (o + ns.length)) ++ b) = (a ++ (c ++ b)).take (a.length + o) ++ ns ++ (a ++ (c ++ b)).drop (a.length + o + ns.length) := by
  have t := take_mid [] a c b [] o (by omega)
  have d := drop_mid [] a c b [] (o + ns.length) h
  simp only [List.nil_append, List.append_nil, List.length_nil, Nat.zero_add] at t d
  rw [t, Nat.add_assoc, d]
  simp

theorem sub_len {α : Type} {cs cells : List α} {off : Nat} (h : ∀ j v, cs[j]? = some v → cells[off + j]? = some v) : cs = [] ∨ off + cs.length ≤ cells.length := by
  cases cs with
  | nil => exact .inl rfl
  | cons x l =>
    right
    have h1 := h l.length (x :: l)[l.length] (by rw [List.getElem?_eq_getElem (by simp)])
    have := (List.getElem?_eq_some_iff.1 h1).1
    simp only [List.length_cons]
    omega

/-- A store. -/
theorem storeV_ok (hC : CfgOK C P) {g : Gh} {s : St} {tm : Array Value} {tms : List (Array Value)} {w : World} (hs : StR g s tm tms w) {t : Nat} {a v : AV} {c : Bool} {r : AV} {e : Eff}
    (h : storeV C s.bxs t a v = some (c, r, e)) {x y : Value} (ha : VR g a x) (hv : VR g v y) :
    r = .tup [] ∧ ∃ w', (Instr.storeAt t x y).run P w = .ok () w' ∧ StR g (e.apply s) tm tms w' ∧ Tr g w g w' := by
  unfold storeV at h
  split at h
  · rename_i hok
    obtain ⟨hok, hsz, hnz⟩ := hok
    obtain ⟨i, hi, his, _⟩ := hC.size t hnz
    have hgs := hv.gs hok
    have hns : y.cells.toList.length = i.size := by rw [hgs.length, hsz, his]
    have hone := hgs.one
    have hrun : ∀ blk off cells, x = .pointer (some ⟨blk, off, none⟩) → BlkIs w blk cells → off + i.size ≤ cells.length →
        ∃ w', (Instr.storeAt t x y).run P w = .ok () w' ∧ StW w w' blk ∧ BlkIs w' blk (cells.take off ++ y.cells.toList ++ cells.drop (off + y.cells.toList.length)) := by
      intro blk off cells hx hb hl
      obtain ⟨w', h1, h2, h3⟩ := run_storeVar hi hb hns hl hone
      refine ⟨w', ?_, h2, by rw [hns]; exact h3⟩
      subst hx
      simp only [Instr.storeAt, Instr.sureAddr, Sem.run_bind, Sem.run_pure, Result.andThen_ok]
      exact h1
    split at h
    · rename_i b off p
      have ha' : GR g (.ptr b off p) [x] := ha
      obtain ⟨gb, blk, e1, e2, e3, e4, e5⟩ := ha'
      simp only [List.cons.injEq, and_true] at e5
      split at h
      · rename_i gs hb
        split at h
        · rename_i gs' hp
          simp only [Option.some.injEq, Prod.mk.injEq] at h
          obtain ⟨_, rfl, rfl⟩ := h
          obtain ⟨gb', k1, k2⟩ := hs.bxs.box _ _ hb
          rw [e1] at k1
          cases k1
          obtain ⟨q1, q2, blk', cells, k3, k4, k5, k6⟩ := k2
          rw [e3] at k3
          cases k3
          obtain ⟨h1, h2⟩ := putAt_ok hs.bxs.w hs.fz hgs hp k5 e4
          obtain ⟨w', r1, r2, r3⟩ := hrun blk (off + stepsOff p) cells e5 k4 (by rw [← hns]; omega)
          have hu := hs.upd e1 e3 q2 k6 r2.os r2.tape r2.output (by rw [r2.size]; exact Nat.le_refl _) (fun b hb _ => r2.other b hb) (.var gs') ⟨q1, q2, blk, _, e3, r3, h2, k6⟩
          exact ⟨rfl, w', r1, hu.1, hu.2⟩
        · cases h
      · cases h
    · rename_i b j o
      have ha' : GR g (.rptr b j o) [x] := ha
      obtain ⟨gb, blk, e1, e2, e3, e4, e5, e6⟩ := ha'
      simp only [List.cons.injEq, and_true] at e6
      split at h
      · rename_i T l hb
        split at h
        · rename_i z hz
          simp only [Option.some.injEq, Prod.mk.injEq] at h
          obtain ⟨_, rfl, rfl⟩ := h
          obtain ⟨gb', k1, k2⟩ := hs.bxs.box _ _ hb
          rw [e1] at k1
          cases k1
          obtain ⟨q1, q2, q3, q4, q5⟩ := k2
          cases ho : gb.own with
          | false =>
            simp only [e3, ho] at q5
            rcases q5.1 with h0 | h0
            · exact absurd h0 (by decide)
            · subst h0; simp only [List.length_nil] at q3; omega
          | true =>
            simp only [e3, ho] at q5
            obtain ⟨cells, cs, k3, k4, k5, k6, k7, k8⟩ := q5
            have hT : ∀ (x : T.den) (cs : List Value), CR g.fz T x cs → cs.length = T.size := fun x cs h => h.length
            have hj : j.toNat < l.length := by omega
            obtain ⟨a1, c1, b1, rfl, ha1, hc1, _⟩ := k5.get hT j.toNat hj
            rw [← at_lt e4 (by omega)] at hc1
            obtain ⟨p1, p2⟩ := put_ok hs.bxs.w hs.fz hz hc1 hgs
            obtain ⟨a', b', c0, ea, ha', hc0, hset⟩ := k5.set hT j.toNat hj p2
            obtain ⟨rfl, ea2⟩ := List.append_inj ea (by rw [ha1, ha'])
            obtain ⟨rfl, rfl⟩ := List.append_inj ea2 (by rw [hc1.length, hT _ _ hc0])
            have hcl : (a1 ++ (c1 ++ b1)).length = l.length * T.size := k5.length hT
            have hle : gb.off + (a1 ++ (c1 ++ b1)).length ≤ cells.length := by
              rw [hcl]
              have := Nat.mul_le_mul_right T.size q4
              rw [q3] at this
              omega
            have hin : a1.length + o + y.cells.toList.length ≤ (a1 ++ (c1 ++ b1)).length := by simp only [List.length_append]; omega
            obtain ⟨w', r1, r2, r3⟩ := hrun blk (gb.off + (a1.length + o)) cells (by rw [e6, ha1, q2, Nat.add_assoc]) k3 (by rw [← hns]; omega)
            rw [splice_inner a1 c1 b1 y.cells.toList o p1] at hset
            have hsub := splice_sub (ns := y.cells.toList) k6 hin (by omega)
            have hu := hs.upd e1 e3 ho (k7 trivial) r2.os r2.tape r2.output (by rw [r2.size]; exact Nat.le_refl _) (fun b hb _ => r2.other b hb) (.row T false (l.set j.toNat z)) (by
              refine ⟨q1, q2, by rw [q3]; simp, q4, ?_⟩
              simp only [e3, ho]
              refine ⟨_, _, r3, ?_, hset, hsub, fun _ => k7 trivial, fun h => nomatch h⟩
              simp only [List.length_append, List.length_take, List.length_drop]
              omega)
            exact ⟨rfl, w', r1, hu.1, hu.2⟩
        · cases h
      · cases h
    · cases h
  · cases h

end
end Go.V
