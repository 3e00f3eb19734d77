/- SparseComplete as a plain law. -/
import Derived.Test.YtccdkoimpoockaaDoorPC
import Derived.Test.YtccdkoimpoockaaDoorGL5
set_option linter.all false
set_option linter.unusedVariables false
set_option linter.unusedSectionVars false
set_option linter.unusedSimpArgs false
namespace Go.V.G

theorem kv_pos {K : List Int} (hs : K.Pairwise (· < ·)) {h i : Nat} (n : Nod h i) (hm : M K i = true) : 1 ≤ (kv K h i).length := by
  rw [kv_eq K hs h i n]
  obtain ⟨k, hk, hw⟩ := List.any_eq_true.1 hm
  exact List.length_pos_of_mem (List.mem_filter.2 ⟨hk, hw⟩)

theorem kv_none {K : List Int} {h i : Nat} (hm : M K i = false) : kv K h i = [] := by cases h <;> unfold kv <;> rw [hm] <;> rfl
theorem mn_none {K : List Int} {h i : Nat} (hm : M K i = false) : mn K h i = 1 := by cases h <;> unfold mn <;> rw [hm] <;> rfl

theorem mn_bound {K : List Int} (hs : K.Pairwise (· < ·)) : ∀ (h i : Nat), Nod h i → M K i = true → mn K h i ≤ h * (kv K h i).length
  | 0, i, _, hm => by unfold mn; rw [if_pos hm]; omega
  | h + 1, i, n, hm => by
    have hc := kv_pos hs n hm
    have e1 : kv K (h + 1) i = kv K h (2 * i) ++ kv K h (2 * i + 1) := by rw [kv, if_pos hm]
    have e2 : mn K (h + 1) i = mn K h (2 * i) + mn K h (2 * i + 1) := by rw [mn, if_pos hm]
    rw [e1, List.length_append] at hc ⊢
    rw [e2, Nat.mul_add, Nat.add_mul, Nat.add_mul]
    cases h1 : M K (2 * i) <;> cases h2 : M K (2 * i + 1)
    · rw [kv_none h1, kv_none h2] at hc
      simp at hc
    · have b := mn_bound hs h _ n.right h2
      rw [kv_none h1] at hc ⊢
      rw [mn_none h1]
      simp only [List.length_nil] at hc ⊢
      omega
    · have a := mn_bound hs h _ n.left h1
      rw [kv_none h2] at hc ⊢
      rw [mn_none h2]
      simp only [List.length_nil] at hc ⊢
      omega
    · have a := mn_bound hs h _ n.left h1
      have b := mn_bound hs h _ n.right h2
      omega

theorem path_bound {l : List Ent} {K : List Int} (hK : KeysOk K) : (pc K (Nd l) 6 1).length ≤ 1 ∨ (pc K (Nd l) 6 1).length ≤ 6 * K.length := by
  rw [pc_mn]
  cases h : M K 1
  · left; rw [mn_none h]; exact Nat.le_refl _
  · right
    have := mn_bound hK.asc 6 1 nod_root h
    rwa [kv_root hK] at this

theorem shown_len (f : Int → ByteArray) : ∀ K : List Int, (prs K (K.map f)).length + (abs_ K (K.map f)).length = K.length
  | [] => rfl
  | k :: K => by
    have ih := shown_len f K
    unfold prs abs_
    simp only [List.map_cons]
    by_cases h : f k = emp
    · rw [if_pos h, if_pos h]; simp only [List.length_cons]; omega
    · rw [if_neg h, if_neg h]; simp only [List.length_cons]; omega

theorem shown_loop (l : List Ent) (K : List Int) (hll : l.length ≤ 1000000) (hKl : K.length ≤ 1000) (m : List Ent) (a : List Int) (hml : m.length ≤ 1000) (hal : a.length ≤ 1000) : ∀ (rest : List Int) (fuel i k n : Nat), K.drop n = rest → n ≤ K.length → rest.length < fuel →
    m.drop i = prs rest (rest.map (atK l)) → a.drop k = abs_ rest (rest.map (atK l)) → i ≤ m.length → k ≤ a.length → f5_l13 l K m a fuel i k n = some (.inl ((), (), ()))
  | [], 0, _, _, _, _, _, hf, _, _, _, _ => by simp at hf
  | [], fuel + 1, i, k, n, hd, hn, _, _, _, _, _ => by
    have : K.length ≤ n := List.drop_eq_nil_iff.1 hd
    rw [f5_l13, dec_f (by omega)]
    rfl
  | x :: rest, 0, _, _, _, _, _, hf, _, _, _, _ => by simp at hf
  | x :: rest, fuel + 1, i, k, n, hd, hn, hf, hm, ha, hi, hk => by
    obtain ⟨hlt, hg, hd'⟩ := drop_get hd
    have hx : at_ (.int .i64) K (n : Int) = x := at_get (T := .int .i64) hg
    have hin : inR (n : Int) K.length = true := inR_of (by omega) (by omega)
    simp only [List.length_cons] at hf
    have h29 := f29_eq l x hll
    rw [f5_l13]
    simp only [dec_t (show (n : Int) < K.length by omega), cond_true, hin, hx, h29, Option.bind_some]
    unfold prs at hm
    unfold abs_ at ha
    simp only [List.map_cons] at hm ha
    by_cases h : atK l x = emp
    · rw [if_pos h] at hm ha
      obtain ⟨q1, q2, q3⟩ := drop_get ha
      have hak : at_ (.int .i64) a (k : Int) = x := at_get (T := .int .i64) q2
      rw [dec_t (show atK l x = (⟨#[]⟩ : ByteArray) from h), cond_true, dec_f (show ¬ (k : Int) ≥ a.length by omega), cond_false, inR_of (by omega) (show (k : Int) < a.length by omega), cond_true, hak, dec_f (show ¬ x ≠ x by simp), cond_false, next64 k (by omega), next64 n (by omega)]
      exact shown_loop l K hll hKl m a hml hal rest fuel i (k + 1) (n + 1) hd' hlt (by omega) hm q3 hi q1
    · rw [if_neg h] at hm ha
      obtain ⟨q1, q2, q3⟩ := drop_get hm
      have hmi : at_ TE m (i : Int) = (x, atK l x, ()) := at_get (T := TE) q2
      rw [dec_f (show ¬ atK l x = (⟨#[]⟩ : ByteArray) from h), cond_false, dec_f (show ¬ (i : Int) ≥ m.length by omega), cond_false, inR_of (by omega) (show (i : Int) < m.length by omega), cond_true]
      simp only [hmi, dec_f (show ¬ x ≠ x by simp), cond_false, dec_t (show atK l x = atK l x from rfl), Bool.not_true, cond_true]
      rw [next64 i (by omega), next64 n (by omega)]
      exact shown_loop l K hll hKl m a hml hal rest fuel (i + 1) k (n + 1) hd' hlt (by omega) q3 ha q1 hk

theorem f5_true (x : List (List Int)) (y : List Int) (hx : PairsOk x) (hxl : x.length ≤ 9223372036854775807) (hy : ∀ c ∈ y, -9223372036854775808 ≤ c ∧ c ≤ 9223372036854775807) (hyl : y.length ≤ 9223372036854775807) : f5 x y = some (true, ()) := by
  obtain ⟨l, hl, e1⟩ := f11_eq x hx hxl
  obtain ⟨K, hK, e2⟩ := f17_eq hl y hy hyl
  have hKl := hK.len
  have hll := hl.len
  have hp := pc_len K (Nd l) 6 1
  have hp6 : 2 ^ 6 = 64 := rfl
  have e3 : f23 (rootD l) (opn l K) = some (prs K (K.map (atK l)), abs_ K (K.map (atK l)), true, ()) := by
    unfold opn
    rw [f23_eq _ _ _ _ (by omega) (by rw [List.length_map]; omega) (by omega), if_pos (stOf_opn hl hK)]
  have hlen := shown_len (atK l) K
  have hb := path_bound (l := l) hK
  unfold f5
  refine bindE sane_eq ?_
  simp only [Bool.not_true, cond_false]
  refine bindE e1 ?_
  refine bindE e2 ?_
  refine bindE (f13_eq hl) ?_
  refine bindE (f18_eq hl hK) ?_
  refine bindE e3 ?_
  have w1 : IntKind.wrap .i64 (((prs K (K.map (atK l))).length : Int) + ((abs_ K (K.map (atK l))).length : Int)) = (K.length : Int) := by rw [wrapS (by omega) (by omega)]; omega
  have w2 : IntKind.wrap .i64 ((6 : Int) * (K.length : Int)) = ((6 * K.length : Nat) : Int) := by rw [wrapS (by omega) (by omega)]; omega
  simp only [w1, w2, dec_f (show ¬ (0 : Int) ≠ 0 by omega), cond_false, Bool.not_true, dec_f (show ¬ (K.length : Int) ≠ (K.length : Int) by simp)]
  have hpath : ¬ (((opn l K).2.2.1.length : Int) > (if ((6 * K.length : Nat) : Int) > 1 then ((6 * K.length : Nat) : Int) else 1)) := by
    show ¬ (((pc K (Nd l) 6 1).length : Int) > _)
    split <;> omega
  rw [dec_f hpath, cond_false, len0]
  exact bindE (shown_loop l K (by omega) (by omega) _ _ (by omega) (by omega) K (K.length + 1) 0 0 0 rfl (by omega) (by omega) rfl rfl (by omega) (by omega)) rfl

theorem f5_all (x : tysDen f5_spec.args) (h : tysOk f5_spec.args x) : f5_spec.fn x = some (true, ()) := by
  obtain ⟨h1, h2, _⟩ := h
  obtain ⟨p1, p2⟩ := pairsOk_of h1
  obtain ⟨p3, p4⟩ := intsOk_of h2
  exact f5_true _ _ p1 p2 p3 p4

end Go.V.G
