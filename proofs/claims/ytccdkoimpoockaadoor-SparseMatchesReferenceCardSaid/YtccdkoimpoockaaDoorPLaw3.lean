/- SparseMatchesReference as a plain law. -/
import Derived.Test.YtccdkoimpoockaaDoorPRef
import Derived.Test.YtccdkoimpoockaaDoorPC
import Derived.Test.YtccdkoimpoockaaDoorGL3
set_option linter.all false
set_option linter.unusedVariables false
set_option linter.unusedSectionVars false
set_option linter.unusedSimpArgs false
namespace Go.V.G

theorem any_len {l : List Ent} {K : List Int} (hl : l.length ≤ 1000) (hK : K.length ≤ 1000) : ∃ (o : Opening) (e : Int), f18 l K = some (o, e, ()) ∧ f19 l K = some (o, e, ()) ∧ f20 o o = some (true, ()) := by
  have hp := pc_len K (Nd l) 6 1
  have hp6 : 2 ^ 6 = 64 := rfl
  rw [f18_any l K (by omega) (by omega), f19_eq l K (by omega) (by omega)]
  by_cases h : (validB l && keysB none K) = true
  · rw [if_pos h]
    exact ⟨opn l K, 0, rfl, rfl, f20_self _ (by show K.length ≤ _; omega) (by show (K.map _).length ≤ _; rw [List.length_map]; omega) (by show (pc K (Nd l) 6 1).length ≤ _; omega)⟩
  · rw [if_neg h]
    exact ⟨noOpn, 40, rfl, rfl, f20_self _ (Nat.zero_le _) (Nat.zero_le _) (Nat.zero_le _)⟩

theorem proofs_round (a2 a3 : List Int) (l z : List Ent) (L : List (List Ent)) (c30 c31 e1 e2 : Int) (b1 : Bool) (z1 : List Ent) (b2 : Bool) (z2 : List Ent) (b3 b4 : Bool) (KK : List (List Int)) (hz : z.length ≤ 1000) (K : List Int) (hK : K.length ≤ 1000) (n k : Nat) (hg : KK[n]? = some K) (hn : n < KK.length) (hn2 : n ≤ 1000) :
    f3_l12 a2 a3 l z L c30 c31 e1 e2 b1 z1 b2 z2 b3 b4 KK KK.length (k + 1) n = f3_l12 a2 a3 l z L c30 c31 e1 e2 b1 z1 b2 z2 b3 b4 KK KK.length k ((n + 1 : Nat) : Int) := by
  have he : at_ (.sl (.int .i64)) KK (n : Int) = K := at_get (T := .sl (.int .i64)) hg
  have hi : inR (n : Int) KK.length = true := inR_of (by omega) (by omega)
  obtain ⟨o, e, h1, h2, h3⟩ := any_len hz hK
  rw [f3_l12]
  simp only [dec_t (show (n : Int) < KK.length by omega), cond_true, hi, he, h1, h2, h3, Option.bind_some, dec_f (show ¬ e ≠ e by simp), cond_false, Bool.not_true, next64 n (by omega)]

theorem f3_true (x : List (List Int)) (raw : List Ent) (keys some_ : List Int) (hx : PairsOk x) (hxl : x.length ≤ 9223372036854775807) (hraw : ∀ e ∈ raw, e.2.1.size ≤ 9223372036854775807)
    (hkl : keys.length ≤ 9223372036854775807) (hs : ∀ c ∈ some_, -9223372036854775808 ≤ c ∧ c ≤ 9223372036854775807) (hsl : some_.length ≤ 9223372036854775807) : f3 x raw keys some_ = some (true, ()) := by
  obtain ⟨l, hl, e1⟩ := f11_eq x hx hxl
  obtain ⟨m, hm, e2⟩ := f12_eq raw hraw
  obtain ⟨K, hK, e3⟩ := f17_eq hl some_ hs hsl
  have hKl := hK.len
  have hll := hl.len
  have round : ∀ (z : List Ent), z.length ≤ 1000 → ∀ (L : List (List Ent)) (n k : Nat), L[n]? = some z → n < L.length → n ≤ 1000 → f3_l5 (k + 1) keys some_ l L L.length n = f3_l5 k keys some_ l L L.length ((n + 1 : Nat) : Int) := by
    intro z hz L n k hg hn hn2
    have he : at_ (.sl TE) L (n : Int) = z := at_get (T := .sl TE) hg
    have hi : inR (n : Int) L.length = true := inR_of (by omega) (by omega)
    have hroot : ∃ (r : ByteArray) (e : Int), f13 z = some (r, e, ()) ∧ f14 z = some (r, e, ()) := by
      rw [f13_any z (by omega), f14_eq z (by omega)]
      split
      · exact ⟨_, _, rfl, rfl⟩
      · exact ⟨_, _, rfl, rfl⟩
    obtain ⟨r, e, h13, h14⟩ := hroot
    have h15 := f15_eq z (by omega)
    have h16 := f16_eq z (by omega)
    have hcut : cutOk keys.length none (some (if (8 : Int) < (keys.length : Int) then (8 : Int) else (keys.length : Int))) = true := by
      unfold cutOk
      simp
      split <;> omega
    rw [f3_l5]
    simp only [dec_t (show (n : Int) < L.length by omega), cond_true, hi, he, h13, h14, Option.bind_some, decide_true, Bool.not_true, cond_false, dec_f (show ¬ e ≠ e by simp), h15, h16, hcut, e3]
    have hK1 : (keys.take (Int.toNat (if (8 : Int) < (keys.length : Int) then (8 : Int) else (keys.length : Int)))).length ≤ 1000 := by
      rw [List.length_take]
      split <;> omega
    generalize keys.take (Int.toNat (if (8 : Int) < (keys.length : Int) then (8 : Int) else (keys.length : Int))) = K1 at hK1 ⊢
    have r1 := proofs_round keys some_ l z L L.length n e e false z (validB z) z (validB z) false [K1, K] hz K1 hK1 0 2 rfl (by simp) (by omega)
    have r2 := proofs_round keys some_ l z L L.length n e e false z (validB z) z (validB z) false [K1, K] hz K (by omega) 1 1 rfl (by simp) (by omega)
    have r3 : f3_l12 keys some_ l z L L.length n e e false z (validB z) z (validB z) false [K1, K] ([K1, K] : List (List Int)).length 1 ((1 + 1 : Nat) : Int) = some (.inl ((keys, some_, l, L, (L.length : Int), (n : Int), e, e, false, z, validB z, z, validB z, false, ()), (), ())) := rfl
    refine bindE (r1.trans (r2.trans r3)) ?_
    simp only [Sum.elim_inl, next64 n (by omega)]
  unfold f3
  refine bindE sane_eq ?_
  simp only [Bool.not_true, cond_false]
  refine bindE e1 ?_
  refine bindE e2 ?_
  have loop : f3_l5 3 keys some_ l [l, m] ([l, m] : List (List Ent)).length ((0 : Nat) : Int) = some (.inl ((), (), ())) := by
    have h1 := round l (by omega) [l, m] 0 2 rfl (by simp) (by omega)
    have h2 := round m (by omega) [l, m] 1 1 rfl (by simp) (by omega)
    exact h1.trans (h2.trans rfl)
  exact bindE loop rfl

theorem entsOk_of {x : List Ent} (h : Ty.ok (.sl TE) x) : (∀ e ∈ x, e.2.1.size ≤ 9223372036854775807) ∧ x.length ≤ 9223372036854775807 :=
  ⟨fun e he => Nat.le_trans (h.2 e he).2.1 (Nat.le_of_ble_eq_true (by kernel_rfl)), Nat.le_trans h.1 (Nat.le_of_ble_eq_true (by kernel_rfl))⟩

theorem f3_all (x : tysDen f3_spec.args) (h : tysOk f3_spec.args x) : f3_spec.fn x = some (true, ()) := by
  obtain ⟨h1, h2, h3, h4, _⟩ := h
  obtain ⟨p1, p2⟩ := pairsOk_of h1
  obtain ⟨p3, _⟩ := entsOk_of h2
  obtain ⟨_, p5⟩ := intsOk_of h3
  obtain ⟨p6, p7⟩ := intsOk_of h4
  exact f3_true _ _ _ _ p1 p2 p3 p5 p6 p7

end Go.V.G
