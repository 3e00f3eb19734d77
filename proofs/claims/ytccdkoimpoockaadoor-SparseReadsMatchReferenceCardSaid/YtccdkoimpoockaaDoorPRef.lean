/- The reference: Valid, Root, Prove. -/
import Derived.Test.YtccdkoimpoockaaDoorPC
set_option linter.all false
set_option linter.unusedVariables false
set_option linter.unusedSectionVars false
set_option linter.unusedSimpArgs false
namespace Go.V.G

theorem refkeys_loop (ks : List Int) (hl : ks.length ≤ 1000000) : ∀ (rest : List Int) (n m : Nat), ks.drop n = rest → n ≤ ks.length → rest.length < m →
    f44_l2 ks m n = some (if keysB (prevOf ks n) rest then .inl ((), (), ()) else .inr ((false, ()), (), ()))
  | [], n, 0, _, _, hm => by simp at hm
  | [], n, m + 1, hd, hn, _ => by
    have : ks.length ≤ n := List.drop_eq_nil_iff.1 hd
    rw [f44_l2, dec_f (by omega)]
    rfl
  | k :: rest, n, 0, _, _, hm => by simp at hm
  | k :: rest, n, m + 1, hd, hn, hm => by
    obtain ⟨hlt, hg, hd'⟩ := drop_get hd
    have hk : at_ (.int .i64) ks (n : Int) = k := at_get (T := .int .i64) hg
    have hi : inR (n : Int) ks.length = true := inR_of (by omega) (by omega)
    simp only [List.length_cons] at hm
    have ih := refkeys_loop ks hl rest (n + 1) m hd' hlt (by omega)
    have hpn : prevOf ks (n + 1) = some k := hg
    rw [hpn] at ih
    rw [f44_l2]
    simp only [dec_t (show (n : Int) < ks.length by omega), cond_true, hi, hk, next64 n (by omega)]
    unfold keysB
    by_cases h1 : k < 0
    · rw [dec_t h1, dec_f (show ¬ 0 ≤ k by omega)]; rfl
    · by_cases h2 : k ≥ 64
      · rw [dec_f h1, dec_t h2, dec_t (show 0 ≤ k by omega), dec_f (show ¬ k < 64 by omega)]; rfl
      · rw [dec_f h1, dec_f h2, dec_t (show 0 ≤ k by omega), dec_t (show k < 64 by omega)]
        simp only [cond_false, Bool.true_and]
        cases n with
        | zero => rw [dec_f (by omega)]; simp only [cond_false, prevOf, Bool.true_and]; exact ih
        | succ n =>
          have hp : IntKind.wrap .i64 (((n + 1 : Nat) : Int) - 1) = (n : Int) := by rw [wrapS (by omega) (by omega)]; omega
          have hg2 : ks[n]? = some ks[n] := List.getElem?_eq_getElem (by omega)
          have hk2 : at_ (.int .i64) ks (n : Int) = ks[n] := at_get (T := .int .i64) hg2
          rw [dec_t (by omega)]
          simp only [cond_true, hp, inR_of (show (0 : Int) ≤ n by omega) (show (n : Int) < ks.length by omega), hk2, prevOf, hg2]
          by_cases h3 : k ≤ ks[n]
          · rw [dec_t h3, dec_f (show ¬ ks[n] < k by omega)]; rfl
          · rw [dec_f h3, dec_t (show ks[n] < k by omega)]
            simp only [cond_false, Bool.true_and]
            exact ih

theorem f44_eq (K : List Int) (hl : K.length ≤ 1000000) : f44 K = some (keysB none K, ()) := by
  unfold f44
  rw [len0]
  refine bindE (refkeys_loop K hl K 0 _ rfl (by omega) (by omega)) ?_
  show Sum.elim _ _ (if keysB none K = true then _ else _) = _
  cases keysB none K <;> rfl

/-! ### Valid -/
def okE (l : List Ent) : Bool := l.all fun e => decide (e.2.1.size ≠ 0) && decide (e.2.1.size ≤ 65536)
def validB (l : List Ent) : Bool := keysB none (l.map (·.1)) && okE l

theorem validB_iff {l : List Ent} : validB l = true ↔ Valid l := by
  unfold validB okE
  simp only [Bool.and_eq_true, keysB_none, List.all_eq_true, decide_eq_true_eq]
  constructor
  · rintro ⟨h1, h2⟩
    exact ⟨fun e he => h1.key e.1 (List.mem_map_of_mem he), h2, by have := h1.asc; rwa [List.pairwise_map] at this⟩
  · intro h
    exact ⟨⟨fun k hk => by obtain ⟨e, he, rfl⟩ := List.mem_map.1 hk; exact h.key e he, by rw [List.pairwise_map]; exact h.asc⟩, h.val⟩

theorem wrong_loop (l : List Ent) (hl : l.length ≤ 1000000) (a b c : Bool) : ∀ (rest : List Ent) (n m : Nat), l.drop n = rest → n ≤ l.length → rest.length < m →
    (okE rest = true ∧ f49_l2_b10007000 l l.length a b c m n = some (.inl ((), ((a, ()), (b, c, ()), ()), ()))) ∨
    (okE rest = false ∧ ∃ j : Nat, f49_l2_b10007000 l l.length a b c m n = some (.inr (((j : Int), ()), ((a, ()), (b, c, ()), ()), ())))
  | [], n, 0, _, _, hm => by simp at hm
  | [], n, m + 1, hd, hn, _ => by
    have : l.length ≤ n := List.drop_eq_nil_iff.1 hd
    left
    rw [f49_l2_b10007000, dec_f (by omega)]
    exact ⟨rfl, rfl⟩
  | e :: rest, n, 0, _, _, hm => by simp at hm
  | e :: rest, n, m + 1, hd, hn, hm => by
    obtain ⟨hlt, hg, hd'⟩ := drop_get hd
    have he : at_ TE l (n : Int) = e := at_get (T := TE) hg
    have hi : inR (n : Int) l.length = true := inR_of (by omega) (by omega)
    simp only [List.length_cons] at hm
    have ih := wrong_loop l hl a b c rest (n + 1) m hd' hlt (by omega)
    have ek : okE (e :: rest) = ((decide (e.2.1.size ≠ 0) && decide (e.2.1.size ≤ 65536)) && okE rest) := by unfold okE; rw [List.all_cons]
    by_cases h1 : e.2.1.size = 0
    · have h39 : f39 e = some (true, ()) := by
        unfold f39
        simp only [dec_t (show (e.2.1.size : Int) = 0 by omega), cond_true]
      right
      rw [f49_l2_b10007000]
      simp only [dec_t (show (n : Int) < l.length by omega), cond_true, hi, he, h39, Option.bind_some]
      rw [ek, dec_f (show ¬ e.2.1.size ≠ 0 by omega)]
      exact ⟨rfl, n, rfl⟩
    · by_cases h2 : e.2.1.size ≤ 65536
      · have h39 : f39 e = some (false, ()) := by
          unfold f39
          simp only [dec_f (show ¬ (e.2.1.size : Int) = 0 by omega), cond_false, dec_f (show ¬ (e.2.1.size : Int) > 65536 by omega)]
        rw [f49_l2_b10007000]
        simp only [dec_t (show (n : Int) < l.length by omega), cond_true, hi, he, h39, Option.bind_some, cond_false, next64 n (by omega)]
        rw [ek, dec_t h1, dec_t h2]
        simp only [Bool.true_and]
        exact ih
      · have h39 : f39 e = some (true, ()) := by
          unfold f39
          simp only [dec_f (show ¬ (e.2.1.size : Int) = 0 by omega), cond_false, dec_t (show (e.2.1.size : Int) > 65536 by omega)]
        right
        rw [f49_l2_b10007000]
        simp only [dec_t (show (n : Int) < l.length by omega), cond_true, hi, he, h39, Option.bind_some]
        rw [ek, dec_f h2, Bool.and_false]
        exact ⟨rfl, n, rfl⟩

theorem f15_eq (l : List Ent) (hl : l.length ≤ 100000) : f15 l = some (validB l, ()) := by
  have hk := keysOf l false (by omega) l 0 (l.length + 1) [] rfl (by omega) (by omega) (by simp; omega)
  unfold f15 validB
  rw [len0]
  refine bindE hk ?_
  simp only [List.nil_append]
  refine bindE (f40_eq (l.map (·.1)) (by simp; omega)) ?_
  cases keysB none (l.map (·.1)) with
  | false => rfl
  | true =>
    simp only [cond_true, Bool.true_and]
    rw [len0]
    rcases wrong_loop l (by omega) false false true l 0 (l.length + 1) rfl (by omega) (by omega) with ⟨h1, h2⟩ | ⟨h1, j, h2⟩
    · refine bindE h2 ?_
      rw [h1]; rfl
    · refine bindE h2 ?_
      rw [h1]
      simp only [Sum.elim_inr, cond_true, dec_t (show (j : Int) ≥ 0 by omega)]
      rfl

theorem refvalid_loop (l : List Ent) (hl : l.length ≤ 100000) : ∀ (rest : List Ent) (n m : Nat) (acc : List Int), l.drop n = rest → n ≤ l.length → rest.length < m → acc.length + rest.length ≤ 1000000 →
    (okE rest = true ∧ f16_l3 l m n acc = some (.inl ((), (), (acc ++ rest.map (·.1), ())))) ∨ (okE rest = false ∧ f16_l3 l m n acc = some (.inr ((false, ()), (), ())))
  | [], n, 0, _, _, _, hm, _ => by simp at hm
  | [], n, m + 1, acc, hd, hn, _, _ => by
    have : l.length ≤ n := List.drop_eq_nil_iff.1 hd
    left
    rw [f16_l3, dec_f (by omega), List.map_nil, List.append_nil]
    exact ⟨rfl, rfl⟩
  | e :: rest, n, 0, _, _, _, hm, _ => by simp at hm
  | e :: rest, n, m + 1, acc, hd, hn, hm, ha => by
    obtain ⟨hlt, hg, hd'⟩ := drop_get hd
    have he : at_ TE l (n : Int) = e := at_get (T := TE) hg
    have hi : inR (n : Int) l.length = true := inR_of (by omega) (by omega)
    simp only [List.length_cons] at hm ha
    have ek : okE (e :: rest) = ((decide (e.2.1.size ≠ 0) && decide (e.2.1.size ≤ 65536)) && okE rest) := by unfold okE; rw [List.all_cons]
    have ih := refvalid_loop l hl rest (n + 1) m (acc ++ [e.1]) hd' hlt (by omega) (by simp; omega)
    rw [f16_l3]
    simp only [dec_t (show (n : Int) < l.length by omega), cond_true, hi, he, List.length_singleton, dec_t (show acc.length + 1 ≤ appLim by unfold appLim; omega), next64 n (by omega)]
    by_cases h1 : e.2.1.size = 0
    · right
      rw [dec_t (show (e.2.1.size : Int) = 0 by omega), ek, dec_f (show ¬ e.2.1.size ≠ 0 by omega)]
      exact ⟨rfl, rfl⟩
    · rw [dec_f (show ¬ (e.2.1.size : Int) = 0 by omega), cond_false]
      by_cases h2 : e.2.1.size ≤ 65536
      · rw [dec_f (show ¬ (e.2.1.size : Int) > 65536 by omega), cond_false, ek, dec_t h1, dec_t h2, List.map_cons]
        simp only [Bool.true_and]
        rw [List.append_assoc] at ih
        exact ih
      · right
        rw [dec_t (show (e.2.1.size : Int) > 65536 by omega), cond_true, ek, dec_f h2, Bool.and_false]
        exact ⟨rfl, rfl⟩

theorem f16_eq (l : List Ent) (hl : l.length ≤ 100000) : f16 l = some (validB l, ()) := by
  unfold f16 validB
  rw [len0]
  rcases refvalid_loop l hl l 0 (l.length + 1) [] rfl (by omega) (by omega) (by simp; omega) with ⟨h1, h2⟩ | ⟨h1, h2⟩
  · refine bindE h2 ?_
    simp only [Sum.elim_inl, List.nil_append]
    refine bindE (f44_eq (l.map (·.1)) (by simp; omega)) ?_
    rw [h1, Bool.and_true]
  · refine bindE h2 ?_
    rw [h1, Bool.and_false]
    rfl

/-! ### Root -/
theorem f38_root {l : List Ent} (h : Valid l) : ∃ s, f38_go l 0 64 [] = some ((rootD l, ()), (s, ())) := by
  have := f38_eq (l := l) (fun e he => (h.val e he).2) (by have := h.len; omega) 6 66 0 [] (by omega) (by omega) (by omega) (by simp)
  exact ⟨_, this⟩

theorem f14_eq (l : List Ent) (hl : l.length ≤ 100000) : f14 l = some (if validB l then (rootD l, 0, ()) else (emp, 40, ())) := by
  unfold f14
  refine bindE (f16_eq l hl) ?_
  by_cases h : validB l = true
  · rw [if_pos h, h]
    obtain ⟨s, hs⟩ := f38_root (validB_iff.1 h)
    simp only [Bool.not_true, cond_false]
    exact bindE hs rfl
  · rw [if_neg h]
    have h : validB l = false := by simpa using h
    rw [h]
    rfl

theorem f13_any (l : List Ent) (hl : l.length ≤ 100000) : f13 l = some (if validB l then (rootD l, 0, ()) else (emp, 40, ())) := by
  by_cases h : validB l = true
  · rw [if_pos h]; exact f13_eq (validB_iff.1 h)
  · rw [if_neg h]
    have h : validB l = false := by simpa using h
    unfold f13
    refine bindE (f15_eq l hl) ?_
    rw [h]
    rfl

/-! ### Prove -/
def noOpn : Opening := ([], [], [], ())

theorem f18_any (l : List Ent) (K : List Int) (hl : l.length ≤ 100000) (hK : K.length ≤ 100000) : f18 l K = some (if validB l && keysB none K then (opn l K, 0, ()) else (noOpn, 40, ())) := by
  by_cases h : validB l = true
  · by_cases h2 : keysB none K = true
    · rw [h, h2]; exact f18_eq (validB_iff.1 h) (keysB_none.1 h2)
    · have h2 : keysB none K = false := by simpa using h2
      unfold f18
      refine bindE (f15_eq l hl) ?_
      rw [h]
      simp only [Bool.not_true, cond_false]
      refine bindE (f40_eq K (by omega)) ?_
      rw [h2]
      rfl
  · have h : validB l = false := by simpa using h
    unfold f18
    refine bindE (f15_eq l hl) ?_
    rw [h]
    rfl

theorem within_loop (K : List Int) (hl : K.length ≤ 1000000) (a b : Int) (ha : 0 ≤ a ∧ a ≤ 1000) (hb : 0 ≤ b ∧ b ≤ 1000) : ∀ (rest : List Int) (n m : Nat), K.drop n = rest → n ≤ K.length → rest.length < m →
    f70_l2 K a b m n = some (if rest.any (fun k => decide (a ≤ k) && decide (k < a + b)) then .inr ((true, ()), (), ()) else .inl ((), (), ()))
  | [], n, 0, _, _, hm => by simp at hm
  | [], n, m + 1, hd, hn, _ => by
    have : K.length ≤ n := List.drop_eq_nil_iff.1 hd
    rw [f70_l2, dec_f (by omega)]
    rfl
  | k :: rest, n, 0, _, _, hm => by simp at hm
  | k :: rest, n, m + 1, hd, hn, hm => by
    obtain ⟨hlt, hg, hd'⟩ := drop_get hd
    have hk : at_ (.int .i64) K (n : Int) = k := at_get (T := .int .i64) hg
    have hi : inR (n : Int) K.length = true := inR_of (by omega) (by omega)
    simp only [List.length_cons] at hm
    have ih := within_loop K hl a b ha hb rest (n + 1) m hd' hlt (by omega)
    have ew : IntKind.wrap .i64 (a + b) = a + b := wrapS (by omega) (by omega)
    rw [f70_l2]
    simp only [dec_t (show (n : Int) < K.length by omega), cond_true, hi, hk, ew, next64 n (by omega), List.any_cons]
    by_cases h1 : a ≤ k
    · by_cases h2 : k < a + b
      · simp only [dec_t (show k ≥ a from h1), dec_t h1, dec_t h2, cond_true, Bool.and_self, Bool.true_or]; rfl
      · simp only [dec_t (show k ≥ a from h1), dec_t h1, dec_f h2, cond_true, cond_false, Bool.and_false, Bool.false_or]; exact ih
    · simp only [dec_f (show ¬ k ≥ a from h1), dec_f h1, cond_false, Bool.false_and, Bool.false_or]; exact ih

theorem f70_eq (K : List Int) (hl : K.length ≤ 1000000) (a b : Int) (ha : 0 ≤ a ∧ a ≤ 1000) (hb : 0 ≤ b ∧ b ≤ 1000) : f70 K a b = some (K.any (fun k => decide (a ≤ k) && decide (k < a + b)), ()) := by
  unfold f70
  rw [len0]
  refine bindE (within_loop K hl a b ha hb K 0 _ rfl (by omega) (by omega)) ?_
  cases K.any _ <;> rfl

theorem pow_nat (h : Nat) : ((2 ^ h : Nat) : Int) = (2 : Int) ^ h := by push_cast; rfl

theorem low_range : ∀ i : Nat, 0 < i → i < 128 → 0 ≤ low i ∧ low i + 2 ^ hgt i ≤ 64 := by
  have h : (List.range 128).all (fun i => Nat.beq i 0 || (decide (0 ≤ low i) && decide (low i + 2 ^ hgt i ≤ 64))) = true := by kernel_rfl
  intro i h0 hi
  have := List.all_eq_true.1 h i (List.mem_range.2 hi)
  simp only [Bool.or_eq_true, Bool.and_eq_true, decide_eq_true_eq] at this
  rcases this with h | h
  · have := Nat.eq_of_beq_eq_true h; omega
  · exact h

theorem within_nod (K : List Int) (hl : K.length ≤ 1000000) {h i : Nat} (n : Nod h i) : f70 K (low i) ((2 ^ h : Nat) : Int) = some (M K i, ()) := by
  have hr := low_range i n.pos n.lt
  have hp : 0 < (2 : Int) ^ hgt i := Int.pow_pos (by omega)
  rw [f70_eq K hl _ _ (by omega) (by rw [pow_nat, n.hh]; omega), pow_nat, n.hh]
  rfl

theorem closed_eq {l : List Ent} (hv : Valid l) (K : List Int) (hl : K.length ≤ 1000000) : ∀ (h fuel i : Nat), Nod h i → h < fuel → f51 fuel l K (low i) ((2 ^ h : Nat) : Int) = some (pc K (Nd l) h i)
  | h, 0, _, _, hf => by omega
  | h, fuel + 1, i, n, hf => by
    have hvv : ∀ e ∈ l, e.2.1.size ≤ 65536 := fun e he => (hv.val e he).2
    have hll := hv.len
    have hr := low_range i n.pos n.lt
    have h6 := hgt_le i n.lt
    have hw := within_nod K hl n
    rw [f51]
    refine bindE hw ?_
    cases hm : M K i with
    | false =>
      obtain ⟨a, ha⟩ : ∃ a : Nat, low i = (a : Int) := ⟨(low i).toNat, by omega⟩
      have hp2 : ((2 ^ h : Nat) : Int) = 2 ^ hgt i := by rw [pow_nat, n.hh]
      have hlow : a + 2 ^ h ≤ 64 := by
        have : ((a + 2 ^ h : Nat) : Int) ≤ 64 := by push_cast; rw [← ha, ← pow_nat, hp2]; omega
        omega
      have e := f38_eq hvv (by omega) h ((2 ^ h : Nat) + 2) a [] (by have := @Nat.lt_two_pow_self h; omega) (by have := n.hh; omega) hlow (by
        have : 2 ^ (h + 1) ≤ 2 ^ 7 := Nat.pow_le_pow_right (by omega) (by have := n.hh; omega)
        simp; omega)
      have e2 : f38_go l (low i) ((2 ^ h : Nat) : Int) [] = some ((D l h (a : Int), ()), (Hs l h (a : Int) [], ())) := by
        unfold f38_go
        rw [ha, Int.toNat_natCast]
        exact e
      simp only [Bool.not_false, cond_true]
      refine bindE e2 ?_
      have : pc K (Nd l) h i = [Nd l i] := by cases h <;> unfold pc <;> rw [hm] <;> rfl
      rw [this]
      unfold Nd
      rw [← n.hh, show (i : Int) * 2 ^ h - 64 = (a : Int) by rw [← ha]; unfold low; rw [← n.hh]]
    | true =>
      simp only [Bool.not_true, cond_false]
      cases h with
      | zero =>
        have : pc K (Nd l) 0 i = [] := by unfold pc; rw [if_pos hm]
        rw [this, dec_t (show ((2 ^ 0 : Nat) : Int) = 1 from rfl)]
        rfl
      | succ h =>
        have hi := n.succ
        have hp : 2 ^ (h + 1) = 2 ^ h + 2 ^ h := by omega
        have hpos := Nat.two_pow_pos h
        have hdiv : Int.tdiv ((2 ^ (h + 1) : Nat) : Int) 2 = ((2 ^ h : Nat) : Int) := by
          have : ((2 ^ (h + 1) : Nat) : Int) = ((2 ^ h : Nat) : Int) * 2 := by rw [hp]; omega
          rw [this, Int.mul_tdiv_cancel _ (by omega)]
        have hpp : 2 ^ h ≤ 2 ^ 6 := Nat.pow_le_pow_right (by omega) (by have := n.hh; omega)
        have ew : IntKind.wrap .i64 ((2 ^ h : Nat) : Int) = ((2 ^ h : Nat) : Int) := wrapS (by omega) (by omega)
        have el : low (2 * i) = low i := low_left n.pos hi
        have er : IntKind.wrap .i64 (low i + ((2 ^ h : Nat) : Int)) = low (2 * i + 1) := by
          have hp3 : (2 : Int) ^ hgt i = ((2 ^ (h + 1) : Nat) : Int) := by rw [pow_nat, n.hh]
          rw [wrapS (by omega) (by omega), low_right n.pos hi, ← n.left.hh, pow_nat]
        have a := closed_eq hv K hl h fuel (2 * i) n.left (by omega)
        have b := closed_eq hv K hl h fuel (2 * i + 1) n.right (by omega)
        rw [el] at a
        have lenA := pc_len K (Nd l) h (2 * i)
        have lenB := pc_len K (Nd l) h (2 * i + 1)
        rw [dec_f (show ¬ ((2 ^ (h + 1) : Nat) : Int) = 1 by omega), cond_false]
        simp only [hdiv, ew, er]
        refine bindE a ?_
        refine bindE b ?_
        rw [dec_t (show (pc K (Nd l) h (2 * i)).length + (pc K (Nd l) h (2 * i + 1)).length ≤ appLim by unfold appLim; omega), cond_true]
        have : pc K (Nd l) (h + 1) i = pc K (Nd l) h (2 * i) ++ pc K (Nd l) h (2 * i + 1) := by rw [pc, if_pos hm]
        rw [this]

theorem vals_loop (l : List Ent) (K : List Int) (hl : l.length ≤ 1000000) (hK : K.length ≤ 100000) (r19 : List Int) (r22 : List ByteArray) : ∀ (rest : List Int) (n m : Nat) (acc : List ByteArray), K.drop n = rest → n ≤ K.length → rest.length < m → acc.length ≤ n →
    f19_l5 l K r19 r22 m n acc = some ((), (), ((), (), r19, acc ++ rest.map (atK l), r22, ()))
  | [], n, 0, _, _, _, hm, _ => by simp at hm
  | [], n, m + 1, acc, hd, hn, _, _ => by
    have : K.length ≤ n := List.drop_eq_nil_iff.1 hd
    rw [f19_l5, dec_f (by omega), List.map_nil, List.append_nil]
    rfl
  | k :: rest, n, 0, _, _, _, hm, _ => by simp at hm
  | k :: rest, n, m + 1, acc, hd, hn, hm, ha => by
    obtain ⟨hlt, hg, hd'⟩ := drop_get hd
    have hk : at_ (.int .i64) K (n : Int) = k := at_get (T := .int .i64) hg
    have hi : inR (n : Int) K.length = true := inR_of (by omega) (by omega)
    simp only [List.length_cons] at hm
    rw [f19_l5]
    simp only [dec_t (show (n : Int) < K.length by omega), cond_true, hi, hk, f29_eq l k hl, Option.bind_some, List.length_singleton, dec_t (show acc.length + 1 ≤ appLim by unfold appLim; omega), next64 n (by omega)]
    rw [vals_loop l K hl hK r19 r22 rest (n + 1) m (acc ++ [atK l k]) hd' hlt (by omega) (by simp; omega), List.append_assoc]
    rfl

theorem f19_eq (l : List Ent) (K : List Int) (hl : l.length ≤ 100000) (hK : K.length ≤ 100000) : f19 l K = some (if validB l && keysB none K then (opn l K, 0, ()) else (noOpn, 40, ())) := by
  unfold f19
  refine bindE (f16_eq l hl) ?_
  by_cases h : validB l = true
  · rw [h]
    simp only [Bool.not_true, cond_false, Bool.true_and]
    refine bindE (f44_eq K (by omega)) ?_
    by_cases h2 : keysB none K = true
    · rw [h2]
      have hv := validB_iff.1 h
      simp only [Bool.not_true, cond_false, if_true]
      rw [dec_t (show K.length ≤ appLim by unfold appLim; omega), cond_true]
      have hc := closed_eq hv K (by omega) 6 66 1 nod_root (by omega)
      have hc2 : f51_go l K 0 64 = some (pc K (Nd l) 6 1) := hc
      refine bindE hc2 ?_
      rw [len0]
      exact bindE (vals_loop l K (by omega) hK K (pc K (Nd l) 6 1) K 0 (K.length + 1) [] rfl (by omega) (by omega) (by simp)) rfl
    · have h2 : keysB none K = false := by simpa using h2
      rw [h2]
      rfl
  · have h : validB l = false := by simpa using h
    rw [h]
    rfl

/-! ### Equality -/
theorem ints_self (a : List Int) (ha : a.length ≤ 1000000) : ∀ (j n m : Nat), n + j = a.length → j < m → f26_l4 a a m n = some (.inl ((), (), ()))
  | _, n, 0, _, hm => by omega
  | 0, n, m + 1, hn, _ => by rw [f26_l4, dec_f (by omega)]; rfl
  | j + 1, n, m + 1, hn, hm => by
    rw [f26_l4]
    simp only [dec_t (show (n : Int) < a.length by omega), cond_true, inR_of (show (0 : Int) ≤ n by omega) (show (n : Int) < a.length by omega), next64 n (by omega), ne_eq, not_true_eq_false, decide_false, cond_false]
    exact ints_self a ha j (n + 1) m (by omega) (by omega)

theorem f26_self (a : List Int) (ha : a.length ≤ 1000000) : f26 a a = some (true, ()) := by
  unfold f26
  rw [dec_f (show ¬ (a.length : Int) ≠ a.length by simp)]
  simp only [cond_false]
  rw [len0]
  exact bindE (ints_self a ha a.length 0 _ (by omega) (by omega)) rfl

theorem strs_self (a : List ByteArray) (ha : a.length ≤ 1000000) : ∀ (j n m : Nat), n + j = a.length → j < m → f52_l4 a a m n = some (.inl ((), (), ()))
  | _, n, 0, _, hm => by omega
  | 0, n, m + 1, hn, _ => by rw [f52_l4, dec_f (by omega)]; rfl
  | j + 1, n, m + 1, hn, hm => by
    rw [f52_l4]
    simp only [dec_t (show (n : Int) < a.length by omega), cond_true, inR_of (show (0 : Int) ≤ n by omega) (show (n : Int) < a.length by omega), next64 n (by omega), decide_true, Bool.not_true, cond_false]
    exact strs_self a ha j (n + 1) m (by omega) (by omega)

theorem f52_self (a : List ByteArray) (ha : a.length ≤ 1000000) : f52 a a = some (true, ()) := by
  unfold f52
  rw [dec_f (show ¬ (a.length : Int) ≠ a.length by simp)]
  simp only [cond_false]
  rw [len0]
  exact bindE (strs_self a ha a.length 0 _ (by omega) (by omega)) rfl

theorem f20_self (o : Opening) (h1 : o.1.length ≤ 1000000) (h2 : o.2.1.length ≤ 1000000) (h3 : o.2.2.1.length ≤ 1000000) : f20 o o = some (true, ()) := by
  unfold f20
  refine bindE (f26_self _ h1) ?_
  simp only [cond_true]
  refine bindE (f52_self _ h2) ?_
  simp only [cond_true]
  exact bindE (f52_self _ h3) rfl

/-! ### few -/
theorem few_loop (x : List Ent) (hx : ∀ e ∈ x, e.2.1.size ≤ 9223372036854775807) : ∀ (j n m : Nat) (acc : List Ent), j + n = 8 → n ≤ x.length → x.length - n < m → acc.length ≤ n →
    ∃ l, l.length ≤ 8 ∧ f12_l3 x m n acc = some ((), (), (l, ()))
  | j, n, 0, _, _, _, hm, _ => by omega
  | 0, n, m + 1, acc, hj, hn, hm, ha => by
    refine ⟨acc, by omega, ?_⟩
    rw [f12_l3]
    by_cases h : (n : Int) < x.length
    · rw [dec_t h, cond_true, dec_f (by omega)]; rfl
    · rw [dec_f h]; rfl
  | j + 1, n, m + 1, acc, hj, hn, hm, ha => by
    by_cases h : (n : Int) < x.length
    · by_cases h8 : (n : Int) < 8
      · have hlt : n < x.length := by omega
        obtain ⟨e, he⟩ : ∃ e, x[n]? = some e := ⟨x[n], List.getElem?_eq_getElem hlt⟩
        have hes := hx e (List.mem_of_getElem? he)
        have hat : at_ TE x (n : Int) = e := at_get (T := TE) he
        have hi : inR (n : Int) x.length = true := inR_of (by omega) h
        obtain ⟨l, z1, z2⟩ := few_loop x hx j (n + 1) m (acc ++ [(e.1, cutS e.2.1 none (some (if (20 : Int) < (e.2.1.size : Int) then (20 : Int) else (e.2.1.size : Int))), ())]) (by omega) (by omega) (by omega) (by simp; omega)
        refine ⟨l, z1, ?_⟩
        have hcut : cutOk e.2.1.size none (some (if (20 : Int) < (e.2.1.size : Int) then (20 : Int) else (e.2.1.size : Int))) = true := by
          unfold cutOk
          simp
          split <;> omega
        rw [f12_l3]
        simp only [dec_t h, dec_t h8, cond_true, hi, hat, hcut, List.length_singleton, dec_t (show acc.length + 1 ≤ appLim by unfold appLim; omega), next64 n (by omega)]
        exact z2
      · refine ⟨acc, by omega, ?_⟩
        rw [f12_l3, dec_t h, cond_true, dec_f h8]; rfl
    · refine ⟨acc, by omega, ?_⟩
      rw [f12_l3, dec_f h]; rfl

theorem f12_eq (x : List Ent) (hx : ∀ e ∈ x, e.2.1.size ≤ 9223372036854775807) : ∃ l, l.length ≤ 8 ∧ f12 x = some (l, ()) := by
  obtain ⟨l, h1, h2⟩ := few_loop x hx 8 0 (x.length + 1) [] (by omega) (by omega) (by omega) (by simp)
  refine ⟨l, h1, ?_⟩
  unfold f12
  rw [len0]
  exact bindE h2 rfl

end Go.V.G
