/- The reference: Formed, Stands, Read, Update. -/
import Derived.Test.YtccdkoimpoockaaDoorPRef
set_option linter.all false
set_option linter.unusedVariables false
set_option linter.unusedSectionVars false
set_option linter.unusedSimpArgs false
namespace Go.V.G

theorem many_eq (K : List Int) (hl : K.length ≤ 1000000) : ∀ (h fuel i : Nat), Nod h i → h < fuel → f78 fuel K (low i) ((2 ^ h : Nat) : Int) = some ((mn K h i : Int), ())
  | h, 0, _, _, hf => by omega
  | h, fuel + 1, i, n, hf => by
    have hr := low_range i n.pos n.lt
    have hw := within_nod K hl n
    rw [f78]
    refine bindE hw ?_
    cases hm : M K i with
    | false =>
      have : mn K h i = 1 := by cases h <;> unfold mn <;> rw [hm] <;> rfl
      rw [this]
      rfl
    | true =>
      simp only [Bool.not_true, cond_false]
      cases h with
      | zero =>
        have : mn K 0 i = 0 := by unfold mn; rw [if_pos hm]
        rw [this, dec_t (show ((2 ^ 0 : Nat) : Int) = 1 from rfl)]
        rfl
      | succ h =>
        have hi := n.succ
        have hp : 2 ^ (h + 1) = 2 ^ h + 2 ^ h := by omega
        have hpos := Nat.two_pow_pos h
        have hdiv : Int.tdiv ((2 ^ (h + 1) : Nat) : Int) 2 = ((2 ^ h : Nat) : Int) := by
          have : ((2 ^ (h + 1) : Nat) : Int) = ((2 ^ h : Nat) : Int) * 2 := by rw [hp]; omega
          rw [this, Int.mul_tdiv_cancel _ (by omega)]
        have h6 := hgt_le i n.lt
        have hpp : 2 ^ h ≤ 2 ^ 6 := Nat.pow_le_pow_right (by omega) (by have := n.hh; omega)
        have ew : IntKind.wrap .i64 ((2 ^ h : Nat) : Int) = ((2 ^ h : Nat) : Int) := wrapS (by omega) (by omega)
        have el : low (2 * i) = low i := low_left n.pos hi
        have er : IntKind.wrap .i64 (low i + ((2 ^ h : Nat) : Int)) = low (2 * i + 1) := by
          have hp3 : (2 : Int) ^ hgt i = ((2 ^ (h + 1) : Nat) : Int) := by rw [pow_nat, n.hh]
          rw [wrapS (by omega) (by omega), low_right n.pos hi, ← n.left.hh, pow_nat]
        have a := many_eq K hl h fuel (2 * i) n.left (by omega)
        have b := many_eq K hl h fuel (2 * i + 1) n.right (by omega)
        rw [el] at a
        have lenA := mn_le K h (2 * i)
        have lenB := mn_le K h (2 * i + 1)
        rw [dec_f (show ¬ ((2 ^ (h + 1) : Nat) : Int) = 1 by omega), cond_false]
        simp only [hdiv, ew, er]
        refine bindE a ?_
        refine bindE b ?_
        have e : mn K (h + 1) i = mn K h (2 * i) + mn K h (2 * i + 1) := by rw [mn, if_pos hm]
        rw [e, wrapS (by omega) (by omega)]
        push_cast
        rfl

/-! ### Formed -/
theorem refvals_loop (K : List Int) (V P : List ByteArray) (hl : V.length ≤ 9223372036854775807) : ∀ (rest : List ByteArray) (n m : Nat), V.drop n = rest → n ≤ V.length → rest.length < m →
    (okV rest = true ∧ f55_l4 K V P m n = some (.inl ((), (), ((K, V, P, ()), ())))) ∨ (okV rest = false ∧ f55_l4 K V P m n = some (.inr ((false, ()), (), ())))
  | [], n, 0, _, _, hm => by simp at hm
  | [], n, m + 1, hd, hn, _ => by
    have : V.length ≤ n := List.drop_eq_nil_iff.1 hd
    left
    rw [f55_l4, dec_f (by omega)]
    exact ⟨rfl, rfl⟩
  | e :: rest, n, 0, _, _, hm => by simp at hm
  | e :: rest, n, m + 1, hd, hn, hm => by
    obtain ⟨hlt, hg, hd'⟩ := drop_get hd
    have he : at_ .str V (n : Int) = e := at_get (T := .str) hg
    have hi : inR (n : Int) V.length = true := inR_of (by omega) (by omega)
    simp only [List.length_cons] at hm
    have ih := refvals_loop K V P hl rest (n + 1) m hd' hlt (by omega)
    have ek : okV (e :: rest) = (decide (e.size ≤ 65536) && okV rest) := by unfold okV; rw [List.all_cons]
    rw [f55_l4]
    simp only [dec_t (show (n : Int) < V.length by omega), cond_true, hi, he, next64b n (by omega)]
    by_cases h : e.size ≤ 65536
    · rw [dec_f (show ¬ (e.size : Int) > 65536 by omega), ek, dec_t h]
      simp only [cond_false, Bool.true_and]
      exact ih
    · right
      rw [dec_t (show (e.size : Int) > 65536 by omega), ek, dec_f h]
      exact ⟨rfl, rfl⟩

theorem refpath_loop (K : List Int) (V P : List ByteArray) (hl : P.length ≤ 9223372036854775807) : ∀ (rest : List ByteArray) (n m : Nat), P.drop n = rest → n ≤ P.length → rest.length < m →
    (okP rest = true ∧ f55_l9 K V P m n = some (.inl ((), (), ()))) ∨ (okP rest = false ∧ f55_l9 K V P m n = some (.inr ((false, ()), (), ())))
  | [], n, 0, _, _, hm => by simp at hm
  | [], n, m + 1, hd, hn, _ => by
    have : P.length ≤ n := List.drop_eq_nil_iff.1 hd
    left
    rw [f55_l9, dec_f (by omega)]
    exact ⟨rfl, rfl⟩
  | e :: rest, n, 0, _, _, hm => by simp at hm
  | e :: rest, n, m + 1, hd, hn, hm => by
    obtain ⟨hlt, hg, hd'⟩ := drop_get hd
    have he : at_ .str P (n : Int) = e := at_get (T := .str) hg
    have hi : inR (n : Int) P.length = true := inR_of (by omega) (by omega)
    simp only [List.length_cons] at hm
    have ih := refpath_loop K V P hl rest (n + 1) m hd' hlt (by omega)
    have ek : okP (e :: rest) = (decide (e.size = 32) && okP rest) := by unfold okP; rw [List.all_cons]
    rw [f55_l9]
    simp only [dec_t (show (n : Int) < P.length by omega), cond_true, hi, he, next64b n (by omega)]
    by_cases h : e.size = 32
    · rw [dec_f (show ¬ (e.size : Int) ≠ 32 by omega), ek, dec_t h]
      simp only [cond_false, Bool.true_and]
      exact ih
    · right
      rw [dec_t (show (e.size : Int) ≠ 32 by omega), ek, dec_f h]
      exact ⟨rfl, rfl⟩

def formed (K : List Int) (V P : List ByteArray) : Bool := half_formed K V P && decide (mn K 6 1 = P.length)

theorem stOf_eq (K : List Int) (V P : List ByteArray) : stOf K V P = if formed K V P then some (sd K (vF K V) 6 1 P) else none := rfl

theorem f55_eq (K : List Int) (V P : List ByteArray) (hl : K.length ≤ 100000) (hvl : V.length ≤ 9223372036854775807) (hpl : P.length ≤ 9223372036854775807) : f55 (K, V, P, ()) = some (formed K V P, ()) := by
  unfold f55 formed half_formed
  simp only
  refine bindE (f44_eq K (by omega)) ?_
  cases hk : keysB none K with
  | false => rfl
  | true =>
    simp only [Bool.not_true, cond_false, Bool.true_and]
    by_cases h1 : V.length = K.length
    · rw [dec_f (show ¬ (V.length : Int) ≠ K.length by omega), dec_t h1, cond_false, Bool.true_and]
      have hm : f78_go K 0 64 = some ((mn K 6 1 : Int), ()) := many_eq K (by omega) 6 66 1 nod_root (by omega)
      refine bindE hm ?_
      simp only
      by_cases h2 : mn K 6 1 = P.length
      · rw [dec_f (show ¬ (P.length : Int) ≠ (mn K 6 1 : Int) by omega), dec_t h2, cond_false, Bool.and_true]
        rw [len0]
        rcases refvals_loop K V P hvl V 0 (V.length + 1) rfl (by omega) (by omega) with ⟨q1, q2⟩ | ⟨q1, q2⟩
        · refine bindE q2 ?_
          rw [q1, Bool.true_and]
          simp only [Sum.elim_inl]
          rw [len0]
          rcases refpath_loop K V P hpl P 0 (P.length + 1) rfl (by omega) (by omega) with ⟨q3, q4⟩ | ⟨q3, q4⟩
          · refine bindE q4 ?_
            rw [q3]; rfl
          · refine bindE q4 ?_
            rw [q3]; rfl
        · refine bindE q2 ?_
          rw [q1]
          rfl
      · rw [dec_t (show (P.length : Int) ≠ (mn K 6 1 : Int) by omega), dec_f h2, cond_true, Bool.and_false]
    · rw [dec_t (show (V.length : Int) ≠ K.length by omega), dec_f h1, cond_true]
      rfl

/-! ### Stands -/
/-- The strings that are hashed. -/
def OS (K : List Int) (V : Int → ByteArray) : Nat → Nat → List ByteArray → List ByteArray → List ByteArray
  | 0, i, _, acc => if M K i then (if V ((i : Int) - 64) = emp then acc else acc ++ [leafS ((i : Int) - 64) (V ((i : Int) - 64))]) else acc
  | h + 1, i, ps, acc => if M K i then
      (if sd K V h (2 * i) ps = zeroD ∧ sd K V h (2 * i + 1) (ps.drop (mn K h (2 * i))) = zeroD then OS K V h (2 * i + 1) (ps.drop (mn K h (2 * i))) (OS K V h (2 * i) ps acc)
       else OS K V h (2 * i + 1) (ps.drop (mn K h (2 * i))) (OS K V h (2 * i) ps acc) ++ [joinS (sd K V h (2 * i) ps) (sd K V h (2 * i + 1) (ps.drop (mn K h (2 * i))))]) else acc

theorem OS_len (K : List Int) (V : Int → ByteArray) : ∀ (h i : Nat) (ps acc : List ByteArray), (OS K V h i ps acc).length + 1 ≤ acc.length + 2 ^ (h + 1)
  | 0, i, ps, acc => by
    unfold OS
    split
    · split <;> simp
    · simp
  | h + 1, i, ps, acc => by
    have h1 := OS_len K V h (2 * i) ps acc
    have h2 := OS_len K V h (2 * i + 1) (ps.drop (mn K h (2 * i))) (OS K V h (2 * i) ps acc)
    have e : 2 ^ (h + 1 + 1) = 2 ^ (h + 1) + 2 ^ (h + 1) := by omega
    have := Nat.two_pow_pos (h + 1)
    unfold OS
    split
    · split
      · omega
      · rw [List.length_append, List.length_singleton]; omega
    · omega

theorem vF_notin : ∀ {K : List Int} {V : List ByteArray} {k : Int}, k ∉ K → vF K V k = emp
  | [], _, _, _ => rfl
  | _ :: _, [], _, _ => rfl
  | x :: K, v :: V, k, h => by
    simp only [List.mem_cons, not_or] at h
    show (if x = k then v else vF K V k) = emp
    rw [if_neg (Ne.symm h.1)]
    exact vF_notin h.2

theorem leaf_loop (key : Nat) (hkey : key < 64) (t3 r : List ByteArray) (K : List Int) (V P : List ByteArray) (hlen : V.length = K.length) (hl : K.length ≤ 100000) (hV : ∀ v ∈ V, v.size ≤ 65536) (hr : r.length ≤ 100000) : ∀ (rK : List Int) (rv : List ByteArray) (n m : Nat), K.drop n = rK → V.drop n = rv → n ≤ K.length → rK.length < m → rK.Pairwise (· < ·) →
    (vF rK rv key = emp ∧ f61_l5 key t3 r K V P m n = some (.inl ((t3, ()), ((), ()), (r, ())))) ∨
    (vF rK rv key ≠ emp ∧ f61_l5 key t3 r K V P m n = some (.inr ((sha (leafS key (vF rK rv key)), t3, ()), ((), ()), (r ++ [leafS key (vF rK rv key)], ()))))
  | [], rv, n, 0, _, _, _, hm, _ => by simp at hm
  | [], rv, n, m + 1, hd, hd2, hn, _, _ => by
    have : K.length ≤ n := List.drop_eq_nil_iff.1 hd
    left
    rw [f61_l5, dec_f (by omega)]
    exact ⟨rfl, rfl⟩
  | k :: rK, rv, n, 0, _, _, _, hm, _ => by simp at hm
  | k :: rK, rv, n, m + 1, hd, hd2, hn, hm, hs => by
    obtain ⟨hlt, hg, hd'⟩ := drop_get hd
    have hk : at_ (.int .i64) K (n : Int) = k := at_get (T := .int .i64) hg
    have hi : inR (n : Int) K.length = true := inR_of (by omega) (by omega)
    simp only [List.length_cons] at hm
    rw [List.pairwise_cons] at hs
    cases rv with
    | nil => have := List.drop_eq_nil_iff.1 hd2; omega
    | cons v rv =>
      obtain ⟨hlt2, hg2, hd2'⟩ := drop_get hd2
      have hv : at_ .str V (n : Int) = v := at_get (T := .str) hg2
      have hvs := hV v (List.mem_of_getElem? hg2)
      have hi2 : inR (n : Int) V.length = true := inR_of (by omega) (by omega)
      have ih := leaf_loop key hkey t3 r K V P hlen hl hV hr rK rv (n + 1) m hd' hd2' (by omega) (by omega) hs.2
      rw [f61_l5]
      simp only [dec_t (show (n : Int) < K.length by omega), cond_true, hi, hi2, hk, hv, next64 n (by omega)]
      by_cases h : k = (key : Int)
      · have evF : vF (k :: rK) (v :: rv) key = v := by
          show (if k = (key : Int) then v else vF rK rv key) = v
          rw [if_pos h]
        rw [evF, dec_t h, cond_true]
        by_cases hz : v = emp
        · rw [dec_t (show v = (⟨#[]⟩ : ByteArray) from hz)]
          have hnot : (key : Int) ∉ rK := fun hx => by have := hs.1 _ hx; omega
          rw [vF_notin hnot] at ih
          left
          refine ⟨hz, ?_⟩
          simp only [Bool.not_true, cond_false]
          rcases ih with ⟨_, q⟩ | ⟨q, _⟩
          · exact q
          · exact absurd rfl q
        · right
          refine ⟨hz, ?_⟩
          rw [dec_f (show ¬ v = (⟨#[]⟩ : ByteArray) from hz)]
          simp only [Bool.not_false, cond_true]
          have e68 : f68 key v = some (leafS key v, ()) := by
            unfold f68
            refine bindE (key_enc key hkey).2 ?_
            show (bif decide ((0 : Int) ≠ 0) then _ else (bif catOk (⟨#[8]⟩ : ByteArray) (kb key) then (bif catOk ((⟨#[8]⟩ : ByteArray) ++ kb key) v then _ else none) else none)) = _
            rw [catOk_of (by rw [kb_size]; decide), catOk_of (by rw [ByteArray.size_append, kb_size]; show 1 + 1 + v.size ≤ _; omega)]
            rfl
          refine bindE e68 ?_
          refine bindE (sha_spec (leafS key v) (by rw [leafS_size]; omega)).2.1 ?_
          rw [dec_t (show r.length + ([leafS (key : Int) v] : List ByteArray).length ≤ appLim by unfold appLim; simp; omega)]
          rfl
      · have evF : vF (k :: rK) (v :: rv) key = vF rK rv key := by
          show (if k = (key : Int) then v else vF rK rv key) = _
          rw [if_neg h]
        rw [evF, dec_f h, cond_false]
        exact ih

theorem f61_eq {K : List Int} {V P : List ByteArray} (hK : KeysOk K) (hlen : V.length = K.length) (hV : ∀ v ∈ V, v.size ≤ 65536) : ∀ (h fuel i : Nat) (ps acc : List ByteArray), Nod h i → h < fuel → mn K h i ≤ ps.length → (∀ s ∈ ps, s.size = 32) → acc.length + 2 ^ (h + 1) ≤ 100000 →
    f61 fuel (K, V, P, ()) (low i) ((2 ^ h : Nat) : Int) ps acc = some ((sd K (vF K V) h i ps, ps.drop (mn K h i), ()), (OS K (vF K V) h i ps acc, ()))
  | h, 0, _, _, _, _, hf, _, _, _ => by omega
  | h, fuel + 1, i, ps, acc, n, hf, hmn, hps, hacc => by
    have hKl := hK.len
    have hr := low_range i n.pos n.lt
    have h6 := hgt_le i n.lt
    have hw := within_nod K (by omega) n
    have hVF := vF_size (K := K) hV
    rw [f61]
    refine bindE hw ?_
    cases hm : M K i with
    | false =>
      have e1 : mn K h i = 1 := by cases h <;> unfold mn <;> rw [hm] <;> rfl
      have e2 : sd K (vF K V) h i ps = ps.headD zeroD := by cases h <;> unfold sd <;> rw [hm] <;> rfl
      have e3 : OS K (vF K V) h i ps acc = acc := by cases h <;> unfold OS <;> rw [hm] <;> rfl
      rw [e1] at hmn
      rw [e1, e2, e3]
      cases ps with
      | nil => simp at hmn
      | cons a r =>
        simp only [Bool.not_false, cond_true]
        rw [inR_of (show (0 : Int) ≤ 0 by omega) (show (0 : Int) < ((a :: r).length : Int) by simp only [List.length_cons]; omega), show cutOk (a :: r).length (some (1 : Int)) none = true by unfold cutOk; simp; omega]
        rfl
    | true =>
      simp only [Bool.not_true, cond_false]
      cases h with
      | zero =>
        have h64 := n.zero
        have h128 := n.lt
        obtain ⟨j, rfl⟩ : ∃ j, i = 64 + j := ⟨i - 64, by omega⟩
        have e0 : ((64 + j : Nat) : Int) - 64 = (j : Int) := by omega
        have el : low (64 + j) = (j : Int) := by rw [low_leaf n, e0]
        have e1 : mn K 0 (64 + j) = 0 := by unfold mn; rw [if_pos hm]
        have e2 : sd K (vF K V) 0 (64 + j) ps = leafD j (vF K V j) := by unfold sd; rw [if_pos hm, e0]
        have e3 : OS K (vF K V) 0 (64 + j) ps acc = if vF K V j = emp then acc else acc ++ [leafS j (vF K V j)] := by unfold OS; rw [if_pos hm, e0]
        rw [e1, e2, e3, el, dec_t (show ((2 ^ 0 : Nat) : Int) = 1 from rfl), cond_true, len0]
        rcases leaf_loop j (by omega) ps acc K V P hlen (by omega) hV (by omega) K V 0 (K.length + 1) rfl rfl (by omega) (by omega) hK.asc with ⟨q1, q2⟩ | ⟨q1, q2⟩
        · refine bindE q2 ?_
          simp only [Sum.elim_inl]
          refine bindE zero_eq.2 ?_
          rw [if_pos q1]
          unfold leafD
          rw [if_pos q1]
          rfl
        · refine bindE q2 ?_
          simp only [Sum.elim_inr]
          rw [if_neg q1]
          unfold leafD
          rw [if_neg q1]
          rfl
      | succ h =>
        have hi := n.succ
        have hp : 2 ^ (h + 1) = 2 ^ h + 2 ^ h := by omega
        have hp2 : 2 ^ (h + 1 + 1) = 2 ^ (h + 1) + 2 ^ (h + 1) := by omega
        have hpos := Nat.two_pow_pos h
        have hdiv : Int.tdiv ((2 ^ (h + 1) : Nat) : Int) 2 = ((2 ^ h : Nat) : Int) := by
          have : ((2 ^ (h + 1) : Nat) : Int) = ((2 ^ h : Nat) : Int) * 2 := by rw [hp]; omega
          rw [this, Int.mul_tdiv_cancel _ (by omega)]
        have hpp : 2 ^ h ≤ 2 ^ 6 := Nat.pow_le_pow_right (by omega) (by have := n.hh; omega)
        have ew : IntKind.wrap .i64 ((2 ^ h : Nat) : Int) = ((2 ^ h : Nat) : Int) := wrapS (by omega) (by omega)
        have el : low (2 * i) = low i := low_left n.pos hi
        have er : IntKind.wrap .i64 (low i + ((2 ^ h : Nat) : Int)) = low (2 * i + 1) := by
          have hp3 : (2 : Int) ^ hgt i = ((2 ^ (h + 1) : Nat) : Int) := by rw [pow_nat, n.hh]
          rw [wrapS (by omega) (by omega), low_right n.pos hi, ← n.left.hh, pow_nat]
        have em : mn K (h + 1) i = mn K h (2 * i) + mn K h (2 * i + 1) := by rw [mn, if_pos hm]
        have es : sd K (vF K V) (h + 1) i ps = joinD (sd K (vF K V) h (2 * i) ps) (sd K (vF K V) h (2 * i + 1) (ps.drop (mn K h (2 * i)))) := by rw [sd, if_pos hm]
        have eo : OS K (vF K V) (h + 1) i ps acc = (if sd K (vF K V) h (2 * i) ps = zeroD ∧ sd K (vF K V) h (2 * i + 1) (ps.drop (mn K h (2 * i))) = zeroD then OS K (vF K V) h (2 * i + 1) (ps.drop (mn K h (2 * i))) (OS K (vF K V) h (2 * i) ps acc)
           else OS K (vF K V) h (2 * i + 1) (ps.drop (mn K h (2 * i))) (OS K (vF K V) h (2 * i) ps acc) ++ [joinS (sd K (vF K V) h (2 * i) ps) (sd K (vF K V) h (2 * i + 1) (ps.drop (mn K h (2 * i))))]) := by rw [OS, if_pos hm]
        rw [em] at hmn
        have hps2 : ∀ s ∈ ps.drop (mn K h (2 * i)), s.size = 32 := fun s hs => hps s (List.mem_of_mem_drop hs)
        have len1 := OS_len K (vF K V) h (2 * i) ps acc
        have len2 := OS_len K (vF K V) h (2 * i + 1) (ps.drop (mn K h (2 * i))) (OS K (vF K V) h (2 * i) ps acc)
        have a := f61_eq (P := P) hK hlen hV h fuel (2 * i) ps acc n.left (by omega) (by omega) hps (by omega)
        have b := f61_eq (P := P) hK hlen hV h fuel (2 * i + 1) (ps.drop (mn K h (2 * i))) (OS K (vF K V) h (2 * i) ps acc) n.right (by omega) (by rw [List.length_drop]; omega) hps2 (by omega)
        rw [el] at a
        rw [dec_f (show ¬ ((2 ^ (h + 1) : Nat) : Int) = 1 by omega), cond_false]
        simp only [hdiv, ew, er]
        refine bindE a ?_
        refine bindE b ?_
        refine bindE zero_eq.2 ?_
        have s1 := sd_size (K := K) hVF h (2 * i) ps hps
        have s2 := sd_size (K := K) hVF h (2 * i + 1) (ps.drop (mn K h (2 * i))) hps2
        rw [es, em, eo, ← List.drop_drop]
        generalize sd K (vF K V) h (2 * i) ps = x at s1 ⊢
        generalize sd K (vF K V) h (2 * i + 1) (ps.drop (mn K h (2 * i))) = y at s2 ⊢
        generalize hacc2 : OS K (vF K V) h (2 * i + 1) (ps.drop (mn K h (2 * i))) (OS K (vF K V) h (2 * i) ps acc) = z at len2 ⊢
        have c1 : catOk (⟨#[9]⟩ : ByteArray) x = true := catOk_of (by show 1 + _ ≤ _; omega)
        have c2 : catOk ((⟨#[9]⟩ : ByteArray) ++ x) y = true := catOk_of (by rw [ByteArray.size_append]; show 1 + _ + _ ≤ _; omega)
        have hsh := (sha_spec (joinS x y) (by rw [joinS_size]; omega)).2.1
        have hlim : z.length + 1 ≤ appLim := by unfold appLim; omega
        show (bif decide (x = zeroD) then _ else _) = _
        by_cases q1 : x = zeroD
        · rw [dec_t q1, cond_true]
          refine bindE zero_eq.2 ?_
          show (bif decide (y = zeroD) then _ else _) = _
          by_cases q2 : y = zeroD
          · rw [dec_t q2, cond_true]
            refine bindE zero_eq.2 ?_
            rw [if_pos ⟨q1, q2⟩]
            unfold joinD
            rw [if_pos ⟨q1, q2⟩]
          · rw [dec_f q2, cond_false, c1, c2, cond_true, cond_true]
            refine bindE hsh ?_
            show (bif decide (z.length + 1 ≤ appLim) then _ else none) = _
            rw [dec_t hlim, cond_true, if_neg (fun h => q2 h.2)]
            unfold joinD
            rw [if_neg (fun h => q2 h.2)]
            rfl
        · rw [dec_f q1, cond_false, c1, c2, cond_true, cond_true]
          refine bindE hsh ?_
          show (bif decide (z.length + 1 ≤ appLim) then _ else none) = _
          rw [dec_t hlim, cond_true, if_neg (fun h => q1 h.1)]
          unfold joinD
          rw [if_neg (fun h => q1 h.1)]
          rfl

theorem formed_facts {K : List Int} {V P : List ByteArray} (h : formed K V P = true) : KeysOk K ∧ V.length = K.length ∧ (∀ v ∈ V, v.size ≤ 65536) ∧ (∀ s ∈ P, s.size = 32) ∧ mn K 6 1 = P.length := by
  unfold formed half_formed at h
  simp only [Bool.and_eq_true, decide_eq_true_eq] at h
  exact ⟨keysB_none.1 h.1.1.1.1, h.1.1.1.2, okV_iff.1 h.1.1.2, okP_iff.1 h.1.2, h.2⟩

theorem f61_root {K : List Int} {V P : List ByteArray} (h : formed K V P = true) (P2 : List ByteArray) : f61_go (K, V, P2, ()) 0 64 P [] = some ((sd K (vF K V) 6 1 P, P.drop (mn K 6 1), ()), (OS K (vF K V) 6 1 P [], ())) := by
  obtain ⟨h1, h2, h3, h4, h5⟩ := formed_facts h
  exact f61_eq (P := P2) h1 h2 h3 6 66 1 P [] nod_root (by omega) (by omega) h4 (by simp)

theorem f56_eq {K : List Int} {V P : List ByteArray} (h : formed K V P = true) : f56 (K, V, P, ()) = some (sd K (vF K V) 6 1 P, ()) := by
  unfold f56
  exact bindE (f61_root h P) rfl

/-- The strings that are hashed for an opening. -/
def opened (K : List Int) (V P : List ByteArray) : List ByteArray := if formed K V P then OS K (vF K V) 6 1 P [] else []

theorem f32_eq (K : List Int) (V P : List ByteArray) (hl : K.length ≤ 100000) (hvl : V.length ≤ 9223372036854775807) (hpl : P.length ≤ 9223372036854775807) : f32 (K, V, P, ()) = some (opened K V P, ()) := by
  unfold f32 opened
  refine bindE (f55_eq K V P hl hvl hpl) ?_
  by_cases h : formed K V P = true
  · rw [h]
    simp only [Bool.not_true, cond_false]
    exact bindE (f61_root h P) rfl
  · have h : formed K V P = false := by simpa using h
    rw [h]
    rfl

/-! ### Read -/
theorem refread_loop (K : List Int) (vs ps : List ByteArray) (hlen : vs.length = K.length) (hl : K.length ≤ 100000) : ∀ (rK : List Int) (rv : List ByteArray) (n m : Nat) (a : List Ent) (b : List Int), K.drop n = rK → vs.drop n = rv → n ≤ K.length → rK.length < m → a.length ≤ n → b.length ≤ n →
    f24_l6 K vs ps m n a b = some ((), (), (a ++ prs rK rv, b ++ abs_ rK rv, ()))
  | [], rv, n, 0, _, _, _, _, _, hm, _, _ => by simp at hm
  | [], rv, n, m + 1, a, b, hd, hd2, hn, _, _, _ => by
    have : K.length ≤ n := List.drop_eq_nil_iff.1 hd
    rw [f24_l6, dec_f (by omega)]
    simp [prs, abs_]
    rfl
  | k :: rK, rv, n, 0, _, _, _, _, _, hm, _, _ => by simp at hm
  | k :: rK, rv, n, m + 1, a, b, hd, hd2, hn, hm, ha, hb => by
    obtain ⟨hlt, hg, hd'⟩ := drop_get hd
    have hk : at_ (.int .i64) K (n : Int) = k := at_get (T := .int .i64) hg
    have hi : inR (n : Int) K.length = true := inR_of (by omega) (by omega)
    simp only [List.length_cons] at hm
    cases rv with
    | nil => have := List.drop_eq_nil_iff.1 hd2; omega
    | cons v rv =>
      obtain ⟨hlt2, hg2, hd2'⟩ := drop_get hd2
      have hv : at_ .str vs (n : Int) = v := at_get (T := .str) hg2
      have hi2 : inR (n : Int) vs.length = true := inR_of (by omega) (by omega)
      rw [f24_l6]
      simp only [dec_t (show (n : Int) < K.length by omega), cond_true, hi, hi2, hk, hv, List.length_singleton, dec_t (show a.length + 1 ≤ appLim by unfold appLim; omega), dec_t (show b.length + 1 ≤ appLim by unfold appLim; omega), next64 n (by omega)]
      by_cases h : v = emp
      · rw [dec_t (show v = (⟨#[]⟩ : ByteArray) from h), cond_true]
        rw [refread_loop K vs ps hlen hl rK rv (n + 1) m a (b ++ [k]) hd' hd2' (by omega) (by omega) (by omega) (by simp; omega)]
        simp [prs, abs_, h]
        rfl
      · rw [dec_f (show ¬ v = (⟨#[]⟩ : ByteArray) from h), cond_false]
        rw [refread_loop K vs ps hlen hl rK rv (n + 1) m (a ++ [(k, v, ())]) b hd' hd2' (by omega) (by omega) (by simp; omega) (by omega)]
        simp [prs, abs_, h]
        rfl

theorem f24_eq (root : ByteArray) (K : List Int) (vs ps : List ByteArray) (hl : K.length ≤ 100000) (hvl : vs.length ≤ 9223372036854775807) (hpl : ps.length ≤ 9223372036854775807) :
    f24 root (K, vs, ps, ()) = some (if stOf K vs ps = some root then (prs K vs, abs_ K vs, true, ()) else ([], [], false, ())) := by
  unfold f24
  simp only
  refine bindE (f55_eq K vs ps hl hvl hpl) ?_
  rw [stOf_eq]
  by_cases h : formed K vs ps = true
  · rw [if_pos h, h]
    simp only [Bool.not_true, cond_false]
    refine bindE (f56_eq h) ?_
    simp only
    by_cases h3 : sd K (vF K vs) 6 1 ps = root
    · rw [dec_t h3, if_pos (congrArg some h3)]
      simp only [Bool.not_true, cond_false]
      rw [len0]
      exact bindE (refread_loop K vs ps (formed_facts h).2.1 hl K vs 0 (K.length + 1) [] [] rfl rfl (by omega) (by omega) (by simp) (by simp)) rfl
    · rw [dec_f h3, if_neg (fun h => h3 (Option.some.inj h))]
      rfl
  · rw [if_neg h]
    have h : formed K vs ps = false := by simpa using h
    rw [h]
    rfl

/-! ### Update -/
theorem refset_loop (cs : List Ent) (c : Ent) (q : Nat) (hq : cs[q]? = some c) (hql : q < cs.length) (K : List Int) (hl : K.length ≤ 100000) (V0 P0 : List ByteArray) (K1 : List Int) (P1 : List ByteArray) (r : List Int) (V : Int → ByteArray) : ∀ (rest : List Int) (n m : Nat) (b : Bool), K.drop n = rest → n ≤ K.length → rest.length < m →
    f28_l11 cs q K V0 P0 K1 P1 r m b n ((K.take n).map (fun k => if k = c.1 then c.2.1 else V k) ++ rest.map V) = some ((cs, (q : Int), b || decide (c.1 ∈ rest), ()), (), ((K, V0, P0, ()), (K1, P1, ()), r, K.map (fun k => if k = c.1 then c.2.1 else V k), ()))
  | [], n, 0, _, _, _, hm => by simp at hm
  | [], n, m + 1, b, hd, hn, _ => by
    have : K.length ≤ n := List.drop_eq_nil_iff.1 hd
    rw [f28_l11, dec_f (by omega), List.take_of_length_le this]
    simp
    rfl
  | k :: rest, n, 0, _, _, _, hm => by simp at hm
  | k :: rest, n, m + 1, b, hd, hn, hm => by
    obtain ⟨hlt, hg, hd'⟩ := drop_get hd
    have hk : at_ (.int .i64) K (n : Int) = k := at_get (T := .int .i64) hg
    have hi : inR (n : Int) K.length = true := inR_of (by omega) (by omega)
    have hqa : at_ TE cs (q : Int) = c := at_get (T := TE) hq
    have hqi : inR (q : Int) cs.length = true := inR_of (by omega) (by omega)
    simp only [List.length_cons] at hm
    have htl : ((K.take n).map (fun k => if k = c.1 then c.2.1 else V k)).length = n := by rw [List.length_map, List.length_take]; omega
    have hil : inR (n : Int) ((K.take n).map (fun k => if k = c.1 then c.2.1 else V k) ++ (k :: rest).map V).length = true := inR_of (by omega) (by rw [List.length_append, htl]; simp; omega)
    have ih := fun b' => refset_loop cs c q hq hql K hl V0 P0 K1 P1 r V rest (n + 1) m b' hd' hlt (by omega)
    rw [f28_l11]
    simp only [dec_t (show (n : Int) < K.length by omega), cond_true, hi, hk, hqi, hqa, hil, next64 n (by omega), Int.toNat_natCast]
    have etake : K.take (n + 1) = K.take n ++ [k] := by rw [List.take_add_one, hg]; rfl
    by_cases h : k = c.1
    · rw [dec_t h, cond_true]
      have e : ((K.take n).map (fun k => if k = c.1 then c.2.1 else V k) ++ (k :: rest).map V).set n c.2.1 = (K.take (n + 1)).map (fun k => if k = c.1 then c.2.1 else V k) ++ rest.map V := by
        rw [List.set_append_right _ _ (by omega), htl, Nat.sub_self, etake, List.map_append, List.append_assoc]
        simp [h]
      rw [e, ih true]
      have : decide (c.1 ∈ k :: rest) = true := decide_eq_true (by simp [h])
      rw [this, Bool.true_or, Bool.or_true]
    · rw [dec_f h, cond_false]
      have e : ((K.take n).map (fun k => if k = c.1 then c.2.1 else V k) ++ (k :: rest).map V) = (K.take (n + 1)).map (fun k => if k = c.1 then c.2.1 else V k) ++ rest.map V := by
        rw [etake, List.map_append, List.append_assoc]
        simp [h]
      rw [e, ih b]
      have : decide (c.1 ∈ k :: rest) = decide (c.1 ∈ rest) := decide_eq_decide.2 (by simp [Ne.symm h])
      rw [this]

theorem refupd_loop (K : List Int) (hl : K.length ≤ 100000) (V0 P0 : List ByteArray) (K1 : List Int) (P1 : List ByteArray) (cs : List Ent) (hcl : cs.length ≤ 100000) (hsz : ∀ c ∈ cs, c.2.1.size ≤ 65536) : ∀ (rest : List Ent) (n m : Nat) (r : List Int) (V : Int → ByteArray), cs.drop n = rest → n ≤ cs.length → rest.length < m → r.length ≤ n →
    ((∀ c ∈ rest, c.1 ∈ K) ∧ f28_l7 m cs n K V0 P0 K1 P1 r (K.map V) = some (.inl ((), (), ((K1, P1, ()), r ++ rest.map (·.1), K.map (updV V rest), ())))) ∨
    (¬ (∀ c ∈ rest, c.1 ∈ K) ∧ f28_l7 m cs n K V0 P0 K1 P1 r (K.map V) = some (.inr ((emp, false, ()), (), ())))
  | [], n, 0, _, _, _, _, hm, _ => by simp at hm
  | [], n, m + 1, r, V, hd, hn, _, _ => by
    have : cs.length ≤ n := List.drop_eq_nil_iff.1 hd
    left
    refine ⟨fun c hc => (nomatch hc), ?_⟩
    rw [f28_l7, dec_f (by omega), List.map_nil, List.append_nil]
    rfl
  | c :: rest, n, 0, _, _, _, _, hm, _ => by simp at hm
  | c :: rest, n, m + 1, r, V, hd, hn, hm, hr => by
    obtain ⟨hlt, hg, hd'⟩ := drop_get hd
    have he : at_ TE cs (n : Int) = c := at_get (T := TE) hg
    have hi : inR (n : Int) cs.length = true := inR_of (by omega) (by omega)
    have hcs := hsz c (List.mem_of_getElem? hg)
    simp only [List.length_cons] at hm
    have inner := refset_loop cs c n hg hlt K hl V0 P0 K1 P1 r V K 0 (K.length + 1) false rfl (by omega) (by omega)
    rw [List.take_zero, List.map_nil, List.nil_append] at inner
    have ih := refupd_loop K hl V0 P0 K1 P1 cs hcl hsz rest (n + 1) m (r ++ [c.1]) (fun k => if k = c.1 then c.2.1 else V k) hd' hlt (by omega) (by simp; omega)
    rw [f28_l7]
    simp only [dec_t (show (n : Int) < cs.length by omega), cond_true]
    rw [len0]
    by_cases hc : c.1 ∈ K
    · rcases ih with ⟨q1, q2⟩ | ⟨q1, q2⟩
      · left
        refine ⟨fun x hx => ?_, bindE inner ?_⟩
        · rcases List.mem_cons.1 hx with rfl | hx
          · exact hc
          · exact q1 x hx
        · simp only [dec_t hc, Bool.or_true, Bool.not_true, cond_false, hi, he, cond_true, dec_f (show ¬ (c.2.1.size : Int) > 65536 by omega), List.length_singleton, dec_t (show r.length + 1 ≤ appLim by unfold appLim; omega), next64 n (by omega)]
          rw [List.append_assoc] at q2
          exact q2
      · right
        refine ⟨fun h => q1 fun x hx => h x (by simp [hx]), bindE inner ?_⟩
        simp only [dec_t hc, Bool.or_true, Bool.not_true, cond_false, hi, he, cond_true, dec_f (show ¬ (c.2.1.size : Int) > 65536 by omega), List.length_singleton, dec_t (show r.length + 1 ≤ appLim by unfold appLim; omega), next64 n (by omega)]
        exact q2
    · right
      refine ⟨fun h => hc (h c (by simp)), bindE inner ?_⟩
      simp only [dec_f hc, Bool.or_false, Bool.not_false, cond_true]
      rfl

theorem updV_size {V : Int → ByteArray} (hV : ∀ k, (V k).size ≤ 65536) : ∀ {cs : List Ent}, (∀ c ∈ cs, c.2.1.size ≤ 65536) → ∀ k, (updV V cs k).size ≤ 65536
  | [], _, k => hV k
  | c :: cs, h, k => updV_size (V := fun k => if k = c.1 then c.2.1 else V k) (fun k => by
      show (if k = c.1 then c.2.1 else V k).size ≤ 65536
      split
      · exact h c (by simp)
      · exact hV k) (fun x hx => h x (by simp [hx])) k

/-- What an update of an opening leads to. -/
def updRes (root : ByteArray) (K : List Int) (vs ps : List ByteArray) (cs : List Ent) : ByteArray × Bool × Unit :=
  if stOf K vs ps = some root ∧ chOk K cs = true then (sd K (vF K (K.map (updV (vF K vs) cs))) 6 1 ps, true, ()) else (emp, false, ())

theorem new_formed {K : List Int} {vs ps : List ByteArray} {cs : List Ent} (h : formed K vs ps = true) (hsz : ∀ c ∈ cs, c.2.1.size ≤ 65536) : formed K (K.map (updV (vF K vs) cs)) ps = true := by
  obtain ⟨h1, h2, h3, h4, h5⟩ := formed_facts h
  unfold formed half_formed
  rw [keysB_none.2 h1, dec_t (List.length_map ..), okV_iff.2 (fun s hs => by obtain ⟨k, _, rfl⟩ := List.mem_map.1 hs; exact updV_size (vF_size h3) hsz k), okP_iff.2 h4, dec_t h5]
  rfl

theorem f27_res (root : ByteArray) (K : List Int) (vs ps : List ByteArray) (cs : List Ent) (hl : K.length ≤ 100000) (hvl : vs.length ≤ 100000) (hpl : ps.length ≤ 100000) (hcl : cs.length ≤ 100000) (hsz : ∀ c ∈ cs, c.2.1.size ≤ 65536) :
    f27 root (K, vs, ps, ()) cs = some (updRes root K vs ps cs) := by
  rw [f27_eq root K vs ps cs hl hvl hpl hcl]
  unfold updRes
  by_cases h : stOf K vs ps = some root ∧ chOk K cs = true
  · rw [if_pos h, if_pos h]
    have hf : formed K vs ps = true := by
      have := h.1
      rw [stOf_eq] at this
      by_cases hf : formed K vs ps = true
      · exact hf
      · rw [if_neg hf] at this; cases this
    have hn := new_formed hf hsz
    have h5 := (formed_facts hn).2.2.2.2
    unfold formed at hn
    rw [Bool.and_eq_true] at hn
    rw [if_pos hn.1, dec_t h5]
  · rw [if_neg h, if_neg h]

theorem f28_res (root : ByteArray) (K : List Int) (vs ps : List ByteArray) (cs : List Ent) (hl : K.length ≤ 100000) (hvl : vs.length ≤ 100000) (hpl : ps.length ≤ 100000) (hcl : cs.length ≤ 100000) (hsz : ∀ c ∈ cs, c.2.1.size ≤ 65536) :
    f28 root (K, vs, ps, ()) cs = some (updRes root K vs ps cs) := by
  unfold f28 updRes
  simp only
  refine bindE (f55_eq K vs ps hl (by omega) (by omega)) ?_
  rw [stOf_eq]
  by_cases h : formed K vs ps = true
  · rw [if_pos h, h]
    obtain ⟨h1, h2, h3, h4, h5⟩ := formed_facts h
    simp only [Bool.not_true, cond_false]
    refine bindE (f56_eq h) ?_
    simp only
    by_cases h6 : sd K (vF K vs) 6 1 ps = root
    · rw [dec_t h6]
      simp only [Bool.not_true, cond_false]
      rw [dec_t (show vs.length ≤ appLim by unfold appLim; omega), cond_true, len0]
      have lp := refupd_loop K hl vs ps K ps cs hcl hsz cs 0 (cs.length + 1) [] (vF K vs) rfl (by omega) (by omega) (by simp)
      rw [vF_map h1.asc h2] at lp
      rcases lp with ⟨q1, q2⟩ | ⟨q1, q2⟩
      · refine bindE q2 ?_
        simp only [Sum.elim_inl, List.nil_append]
        refine bindE (f44_eq (cs.map (·.1)) (by simp; omega)) ?_
        by_cases h7 : keysB none (cs.map (·.1)) = true
        · have hc : chOk K cs = true := by
            unfold chOk
            rw [h7, Bool.true_and, List.all_eq_true]
            exact fun c hc => decide_eq_true (q1 c hc)
          rw [h7, if_pos ⟨congrArg some h6, hc⟩]
          simp only [Bool.not_true, cond_false]
          exact bindE (f56_eq (new_formed h hsz)) rfl
        · have hc : ¬ chOk K cs = true := by unfold chOk; simp [h7]
          have h7 : keysB none (cs.map (·.1)) = false := by simpa using h7
          rw [h7, if_neg (fun h => hc h.2)]
          rfl
      · refine bindE q2 ?_
        have hc : ¬ chOk K cs = true := by
          unfold chOk
          simp only [Bool.and_eq_true, List.all_eq_true]
          exact fun h => q1 fun c hc => of_decide_eq_true (h.2 c hc)
        rw [if_neg (fun h => hc h.2)]
        rfl
    · rw [dec_f h6, if_neg (fun h => h6 (Option.some.inj h.1))]
      rfl
  · rw [if_neg h]
    have h : formed K vs ps = false := by simpa using h
    rw [h]
    rfl

end Go.V.G
