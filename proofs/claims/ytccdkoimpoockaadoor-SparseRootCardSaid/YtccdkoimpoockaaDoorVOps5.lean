/- Fields and elements of values; arithmetic. -/
import Derived.Test.YtccdkoimpoockaaDoorVOps4
set_option linter.all false
set_option linter.unusedVariables false
set_option linter.unusedSectionVars false
set_option linter.unusedSimpArgs false
namespace Go.V
variable [Codes]
section
variable {C : Cfg} {P : Program}

theorem part_ok (hC : CfgOK C P) {g : Gh} {w : World} {t : Nat} {gs : List AV} {c : Bool} {v : AV} {e : Eff} (h : loadAt C t gs = some (c, v, e)) {arr : Array Value} {off : Nat} {cs : List Value} (hcs : ∃ r, arr.toList.drop off = cs ++ r)
    (hg : GsR g gs cs) : e = .none ∧ ∃ x, (part t arr off).run P w = .ok x w ∧ VR1 g v x := by
  obtain ⟨r, hr⟩ := hcs
  have hcut : ∀ n, n ≤ cs.length → (arr.extract off (off + n)).toList = cs.take n := by
    intro n hn
    rw [Array.toList_extract, List.extract_eq_take_drop, show off + n - off = n by omega, hr, List.take_append_of_le_length hn]
  unfold loadAt at h
  split at h
  · rename_i fs hu
    split at h
    · cases h
    · rename_i hz
      split at h
      · rename_i gs' ht
        simp only [ok, Option.some.injEq, Prod.mk.injEq] at h
        obtain ⟨_, rfl, rfl⟩ := h
        obtain ⟨h1, h2⟩ := takeGs_rel ht hg
        obtain ⟨fields, hd, _⟩ := hC.st _ _ hu
        obtain ⟨i, hi, hs, _⟩ := hC.size t hz
        refine ⟨rfl, .agg (arr.extract off (off + C.size t)), ?_, _, rfl, by rw [hcut _ h1]; exact h2⟩
        simp [part, run_isAgg hd, aggB, run_sizeOf hi, hs]
      · cases h
  · rename_i n e' hu
    split at h
    · rename_i m T l gs'
      split at h
      · rename_i hnm
        simp only [ok, Option.some.injEq, Prod.mk.injEq] at h
        obtain ⟨_, rfl, rfl⟩ := h
        obtain ⟨c1, c2, rfl, h1, h2⟩ := hg
        have hl := CR.length h1
        obtain ⟨i, hi, hs, _⟩ := hC.size t hnm.2.2
        have hle : C.size t = c1.length := by rw [hl, hnm.2.1]; rfl
        refine ⟨rfl, .agg (arr.extract off (off + C.size t)), ?_, _, rfl, ?_⟩
        · simp [part, run_isAgg (hC.arr _ _ _ hu), aggB, run_sizeOf hi, hs]
        · rw [hcut _ (by rw [List.length_append]; omega), hle, List.take_left]
          exact h1
      · cases h
    · cases h
  · cases h
  · cases h
  · rename_i h1 h2 h3 h4
    split at h
    · rename_i v' gs'
      split at h
      · rename_i hs
        simp only [ok, Option.some.injEq, Prod.mk.injEq] at h
        obtain ⟨_, rfl, rfl⟩ := h
        obtain ⟨c1, c2, rfl, k1, k2⟩ := hg
        obtain ⟨x, rfl⟩ := k1.single_one hs
        have hc : arr[off]? = some x := by
          have : (arr.toList.drop off)[0]? = some x := by rw [hr]; rfl
          simpa using this
        have one : ∀ d, P.underlying t = some d → aggB d = false → (part t arr off).run P w = .ok x w := by
          intro d hd ha
          unfold part
          rw [Sem.run_bind, run_isAgg hd, ha]
          simp [hc]
        refine ⟨rfl, x, ?_, (vr1_single hs).2 k1⟩
        cases hu : C.under t with
        | int k => exact one _ (hC.int _ _ hu) rfl
        | bool => exact one _ (hC.bool _ hu) rfl
        | str => exact one _ (hC.str _ hu) rfl
        | ptr e => exact one _ (hC.ptr _ _ hu) rfl
        | sl e => exact one _ (hC.sl _ _ hu) rfl
        | arr n e => exact (h2 _ _ hu).elim
        | st fs => exact (h1 _ hu).elim
        | fn => obtain ⟨_, _, _, hd⟩ := hC.fn _ hu; exact one _ hd rfl
        | iface => obtain ⟨_, hd⟩ := hC.iface _ hu; exact one _ hd rfl
        | map k e => exact one _ (hC.map _ _ _ hu) rfl
        | tup => exact (h4 hu).elim
        | oth => exact (h3 hu).elim
      · cases h
    · cases h

theorem VR1.vr' {g : Gh} {v : AV} {c : Value} (h : VR1 g v c) : VR g v c := by
  cases v <;> first | exact h | exact h.elim

theorem fieldV_ok (hC : CfgOK C P) {g : Gh} {w : World} {t f : Nat} {a : AV} {c : Bool} {v : AV} {e : Eff} (h : fieldV C t a f = some (c, v, e)) {x : Value} (ha : VR g a x) :
    e = .none ∧ ∃ y, (Instr.field t x f).run P w = .ok y w ∧ VR g v y := by
  unfold fieldV at h
  split at h
  · rename_i o ft gs hf
    split at h
    · rename_i gs' hd
      unfold fieldOff at hf
      split at hf
      · rename_i fs hu
        obtain ⟨fields, hdd, hfs⟩ := hC.st _ _ hu
        subst hfs
        rw [List.getElem?_map, Option.map_eq_some_iff] at hf
        obtain ⟨fl, hfl, he⟩ := hf
        have hfl' : fields[f]? = some fl := by simpa using hfl
        have h1 : fl.offset = o := congrArg Prod.fst he
        have h2 : fl.type = ft := congrArg Prod.snd he
        obtain ⟨arr, rfl, h3⟩ := ha
        obtain ⟨h4, h5⟩ := dropGs_rel hd h3
        obtain ⟨e1, y, h6, h7⟩ := part_ok (P := P) (w := w) hC h (arr := arr) (off := o) ⟨[], by simp⟩ h5
        refine ⟨e1, y, ?_, h7.vr'⟩
        simp [Instr.field, run_underlying hdd, hfl', asAgg, h1, h2, h6]
      · cases hf
    · cases h
  · cases h

theorem indexV_ok (hC : CfgOK C P) {g : Gh} {w : World} {t : Nat} {a iv : AV} {v : AV} {e : Eff} (h : indexV C t a iv = some (true, v, e)) {x y : Value} (ha : VR g a x) (hy : VR g iv y) :
    e = .none ∧ ∃ z, (Instr.index t x y).run P w = .ok z w ∧ VR g v z := by
  unfold indexV at h
  split at h
  · cases h
  · rename_i i hi
    obtain ⟨k, rfl⟩ := idx_ok hi hy
    split at h
    · rename_i s hu
      simp only [okIf, Option.some.injEq, Prod.mk.injEq] at h
      obtain ⟨hc, rfl, rfl⟩ := h
      obtain ⟨h0, h1⟩ := inR_ok hc
      have ha' : [x] = [Value.string s] := ha
      simp only [List.cons.injEq, and_true] at ha'
      subst ha'
      refine ⟨rfl, .int .u8 (byteAt s i), ?_, rfl⟩
      have hlt : i.toNat < s.size := by omega
      have hb : byteAt s i = ((s[i.toNat]'hlt).toNat : Int) := by
        unfold byteAt
        rw [List.getD_eq_getElem?_getD, Array.getElem?_toList, Array.getElem?_eq_getElem hlt]
        rfl
      simp [Instr.index, asIntOf, run_underlying (hC.str _ hu), h0, hlt, hb]
    · rename_i n e' m T l hu
      split at h
      · rename_i hnm
        split at h
        · rename_i c0 v0 e0 hl
          simp only [okIf, Option.some.injEq, Prod.mk.injEq] at h
          obtain ⟨hc, rfl, rfl⟩ := h
          obtain ⟨h0, h1⟩ := inR_ok hc
          obtain ⟨arr, rfl, h2⟩ := ha
          obtain ⟨inf, hinf, his, _⟩ := hC.size _ hnm.2.2
          obtain ⟨a1, c, b1, hea, ha1, hcc⟩ := arr_get h2 h0 (by omega)
          obtain ⟨_, z, h3, h4⟩ := part_ok (P := P) (w := w) hC hl (arr := arr) (off := i.toNat * inf.size) (cs := c) ⟨b1, by rw [hea, his, ← hnm.2.1, ← ha1, List.drop_left]⟩ (gsR_gs hcc)
          refine ⟨rfl, z, ?_, h4.vr'⟩
          simp [Instr.index, asIntOf, run_underlying (hC.arr _ _ _ hu), h0, h1, run_sizeOf hinf, h3]
        · cases h
      · cases h
    · cases h

/-! ### Arithmetic -/
theorem run_eqGuard {op : BinOp} {t : TypeId} {x y : Operand} {a b : Value} {w : World} (h : a ≠ .nilIface) (h2 : ∀ cs, a ≠ .agg cs) :
    (eqGuard op t x y a b).run P w = .ok () w := by
  unfold eqGuard
  cases op <;> simp only [Bool.not_true, Bool.not_false, if_true, if_false, Bool.false_eq_true] <;> first | rfl | skip
  all_goals
    cases a <;> cases b <;> first | rfl | (exact absurd rfl h) | (exact absurd rfl (h2 _))

end
end Go.V
