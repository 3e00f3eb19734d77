/- SparseRoot as a plain law. -/
import Derived.Test.YtccdkoimpoockaaDoorGE
import Derived.Test.YtccdkoimpoockaaDoorVEntry
import Derived.Test.YtccdkoimpoockaaDoorGL7
set_option linter.all false
set_option linter.unusedVariables false
set_option linter.unusedSectionVars false
set_option linter.unusedSimpArgs false
namespace Go.V.G

theorem intOk {c : Int} (h : Ty.ok (.int .i64) c) : -9223372036854775808 ≤ c ∧ c ≤ 9223372036854775807 := by
  have h1 : IntKind.min .i64 ≤ c := h.1
  have h2 : c ≤ IntKind.max .i64 := h.2
  have e1 : IntKind.min .i64 = -9223372036854775808 := by kernel_rfl
  have e2 : IntKind.max .i64 = 9223372036854775807 := by kernel_rfl
  rw [e1] at h1
  rw [e2] at h2
  exact ⟨h1, h2⟩

theorem pairsOk_of {x : List (List Int)} (h : Ty.ok (.sl (.arr 2 (.int .i64))) x) : PairsOk x ∧ x.length ≤ 9223372036854775807 := by
  refine ⟨fun p hp => ?_, ?_⟩
  · have := h.2 p hp
    exact ⟨this.1, fun c hc => intOk (this.2 c hc)⟩
  · exact Nat.le_trans h.1 (Nat.le_of_ble_eq_true (by kernel_rfl))

theorem sane_eq : f10 = some (true, ()) := rfl

theorem f7_true (x y : List (List Int)) (a b : Int) (hx : PairsOk x) (hxl : x.length ≤ 9223372036854775807) (hy : PairsOk y) (hyl : y.length ≤ 9223372036854775807) (ha : -9223372036854775808 ≤ a ∧ a ≤ 9223372036854775807) (hb : -9223372036854775808 ≤ b ∧ b ≤ 9223372036854775807) :
    f7 x y a b = some (true, ()) := by
  obtain ⟨l, hl, e1⟩ := f11_eq x hx hxl
  obtain ⟨m, hm, e2⟩ := f11_eq y hy hyl
  obtain ⟨r1, _, e3, k1, k2⟩ := pick_eq a 64 ha (by omega)
  obtain ⟨r2, _, e4, k3, k4⟩ := pick_eq b 3 hb (by omega)
  have hll := hl.len
  have hml := hm.len
  obtain ⟨v, v1, v2⟩ : ∃ v : ByteArray, at_ .str ([(⟨#[]⟩ : ByteArray), (⟨#[97]⟩ : ByteArray), (⟨#[122, 122]⟩ : ByteArray)] : List ByteArray) r2 = v ∧ v.size ≤ 65536 := by
    have : r2 = 0 ∨ r2 = 1 ∨ r2 = 2 := by omega
    rcases this with rfl | rfl | rfl
    · exact ⟨_, rfl, by show (0 : Nat) ≤ _; omega⟩
    · exact ⟨_, rfl, by show (1 : Nat) ≤ _; omega⟩
    · exact ⟨_, rfl, by show (2 : Nat) ≤ _; omega⟩
  have hp := put_valid hl ⟨k1, k2⟩ v2
  have e5 := f33_eq l r1 v (by omega)
  -- one round
  have round : ∀ (z : List Ent), Valid z → ∀ (L : List (List Ent)) (n k : Nat), L[n]? = some z → n < L.length → n ≤ 1000 → f7_l6 l (rootD l) 0 L L.length (k + 1) n = f7_l6 l (rootD l) 0 L L.length k ((n + 1 : Nat) : Int) := by
    intro z hz L n k hg hn hn2
    have he : at_ (.sl TE) L (n : Int) = z := at_get (T := .sl TE) hg
    have hi : inR (n : Int) L.length = true := inR_of (by omega) (by omega)
    have hzl := hz.len
    rw [f7_l6]
    simp only [dec_t (show (n : Int) < L.length by omega), cond_true, hi, he, f13_eq hz, Option.bind_some, dec_f (show ¬ (0 : Int) ≠ 0 by omega), cond_false, f25_eq l z (by omega), f31_eq hl, f31_eq hz, next64 n (by omega)]
    obtain ⟨r, hr, hrc⟩ := f30_eq (hashed l) (hashed z) (by have := hashed_len l; omega) (by have := hashed_len z; omega) (hashed_size hl) (hashed_size hz)
    by_cases hsame : l = z
    · subst hsame
      simp only [decide_true, Bool.not_true, cond_false]
    · by_cases hroot : rootD l = rootD z
      · rw [dec_t hroot, dec_f hsame]
        rcases hrc with rfl | hc
        · simp only [hr, Option.bind_some, Bool.not_true, cond_false]
          rfl
        · exact absurd (root_inj hl hz hc hroot) hsame
      · rw [dec_f hroot, dec_f hsame]
        rfl
  unfold f7
  refine bindE sane_eq ?_
  simp only [Bool.not_true, cond_false]
  refine bindE e1 ?_
  refine bindE (f13_eq hl) ?_
  refine bindE e2 ?_
  refine bindE e3 ?_
  refine bindE e4 ?_
  simp only
  rw [show inR r2 ([(⟨#[]⟩ : ByteArray), (⟨#[97]⟩ : ByteArray), (⟨#[122, 122]⟩ : ByteArray)] : List ByteArray).length = true from inR_of k3 k4, cond_true, v1]
  refine bindE e5 ?_
  have loop : f7_l6 l (rootD l) 0 [m, put l r1 v] 2 3 0 = some (.inl ((), (), ())) := by
    have h1 := round m hm [m, put l r1 v] 0 2 rfl (by simp) (by omega)
    have h2 := round (put l r1 v) hp [m, put l r1 v] 1 1 rfl (by simp) (by omega)
    exact h1.trans (h2.trans rfl)
  exact bindE loop rfl

theorem f7_all (x : tysDen f7_spec.args) (h : tysOk f7_spec.args x) : f7_spec.fn x = some (true, ()) := by
  obtain ⟨h1, h2, h3, h4, _⟩ := h
  obtain ⟨p1, p2⟩ := pairsOk_of h1
  obtain ⟨p3, p4⟩ := pairsOk_of h2
  exact f7_true _ _ _ _ p1 p2 p3 p4 (intOk h3) (intOk h4)

end Go.V.G
