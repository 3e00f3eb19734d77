/- The program's root of a map. -/
import Derived.Test.YtccdkoimpoockaaDoorPTree
set_option linter.all false
set_option linter.unusedVariables false
set_option linter.unusedSectionVars false
set_option linter.unusedSimpArgs false
namespace Go.V.G

theorem drop_get {α : Type} {l rest : List α} {n : Nat} {e : α} (h : l.drop n = e :: rest) : n < l.length ∧ l[n]? = some e ∧ l.drop (n + 1) = rest := by
  have hlt : n < l.length := by
    have := congrArg List.length h
    rw [List.length_drop, List.length_cons] at this
    omega
  refine ⟨hlt, ?_, by rw [← List.drop_drop, h]; rfl⟩
  have := congrArg (fun x => x[0]?) h
  simpa using this

theorem next64 (n : Nat) (h : n ≤ 1000000) : IntKind.wrap .i64 ((n : Int) + 1) = ((n + 1 : Nat) : Int) := by rw [wrapS (by omega) (by omega)]; rfl

theorem keysOf (l : List Ent) (b : Bool) (hl : l.length ≤ 1000000) : ∀ (rest : List Ent) (n m : Nat) (acc : List Int), l.drop n = rest → n ≤ l.length → rest.length < m → acc.length + rest.length ≤ 1000000 →
    f41_l3_b5000 l l.length l b m n acc = some ((), ((l, b, ()), ()), (acc ++ rest.map (·.1), ()))
  | [], n, 0, _, _, _, hm, _ => by simp at hm
  | [], n, m + 1, acc, hd, hn, _, _ => by
    have : l.length ≤ n := List.drop_eq_nil_iff.1 hd
    rw [f41_l3_b5000, dec_f (by omega), List.map_nil, List.append_nil]
    rfl
  | e :: rest, n, 0, _, _, _, hm, _ => by simp at hm
  | e :: rest, n, m + 1, acc, hd, hn, hm, ha => by
    obtain ⟨hlt, hg, hd'⟩ := drop_get hd
    have he : at_ TE l (n : Int) = e := at_get (T := TE) hg
    have hi : inR (n : Int) l.length = true := inR_of (by omega) (by omega)
    simp only [List.length_cons] at hm ha
    have h42 : f42 e = some (e.1, ()) := rfl
    rw [f41_l3_b5000]
    simp only [dec_t (show (n : Int) < l.length by omega), cond_true, hi, he, h42, Option.bind_some, List.length_singleton, dec_t (show acc.length + 1 ≤ appLim by unfold appLim; omega), next64 n (by omega)]
    rw [keysOf l b hl rest (n + 1) m (acc ++ [e.1]) hd' hlt (by omega) (by simp; omega)]
    rw [List.append_assoc]
    rfl

theorem ascKeys (ks : List Int) (hl : ks.length ≤ 1000000) (hr : ∀ k ∈ ks, 0 ≤ k ∧ k < 64) (ha : ks.Pairwise (· < ·)) : ∀ (rest : List Int) (n m : Nat), ks.drop n = rest → n ≤ ks.length → rest.length < m →
    f40_l2 ks ks ks.length m n = some (.inl ((), (), ()))
  | [], n, 0, _, _, hm => by simp at hm
  | [], n, m + 1, hd, hn, _ => by
    have : ks.length ≤ n := List.drop_eq_nil_iff.1 hd
    rw [f40_l2, dec_f (by omega)]
    rfl
  | k :: rest, n, 0, _, _, hm => by simp at hm
  | k :: rest, n, m + 1, hd, hn, hm => by
    obtain ⟨hlt, hg, hd'⟩ := drop_get hd
    have hk : at_ (.int .i64) ks (n : Int) = k := at_get (T := .int .i64) hg
    have hmem : k ∈ ks := List.mem_of_getElem? hg
    have hkr := hr k hmem
    have hi : inR (n : Int) ks.length = true := inR_of (by omega) (by omega)
    simp only [List.length_cons] at hm
    have ih := ascKeys ks hl hr ha rest (n + 1) m hd' hlt (by omega)
    rw [f40_l2]
    simp only [dec_t (show (n : Int) < ks.length by omega), cond_true, hi, hk, dec_f (show ¬ k < 0 by omega), dec_f (show ¬ k ≥ 64 by omega), cond_false, next64 n (by omega)]
    cases n with
    | zero => rw [dec_f (by omega)]; exact ih
    | succ n =>
      have hp : IntKind.wrap .i64 (((n + 1 : Nat) : Int) - 1) = (n : Int) := by rw [wrapS (by omega) (by omega)]; omega
      have hg2 : ks[n]? = some ks[n] := List.getElem?_eq_getElem (by omega)
      have hk2 : at_ (.int .i64) ks (n : Int) = ks[n] := at_get (T := .int .i64) hg2
      have hlt2 : ks[n] < k := by
        have := List.pairwise_iff_getElem.1 ha n (n + 1) (by omega) hlt (by omega)
        rw [List.getElem?_eq_getElem hlt] at hg
        rw [Option.some.inj hg] at this
        exact this
      rw [dec_t (by omega)]
      simp only [cond_true, hp, inR_of (show (0 : Int) ≤ n by omega) (show (n : Int) < ks.length by omega), hk2, dec_f (show ¬ k ≤ ks[n] by omega), cond_false]
      exact ih

theorem noneWrong (l : List Ent) (hl : l.length ≤ 1000000) (hv : ∀ e ∈ l, e.2.1.size ≠ 0 ∧ e.2.1.size ≤ 65536) (a b c : Bool) : ∀ (rest : List Ent) (n m : Nat), l.drop n = rest → n ≤ l.length → rest.length < m →
    f49_l2_b10007000 l l.length a b c m n = some (.inl ((), ((a, ()), (b, c, ()), ()), ()))
  | [], n, 0, _, _, hm => by simp at hm
  | [], n, m + 1, hd, hn, _ => by
    have : l.length ≤ n := List.drop_eq_nil_iff.1 hd
    rw [f49_l2_b10007000, dec_f (by omega)]
    rfl
  | e :: rest, n, 0, _, _, hm => by simp at hm
  | e :: rest, n, m + 1, hd, hn, hm => by
    obtain ⟨hlt, hg, hd'⟩ := drop_get hd
    have he : at_ TE l (n : Int) = e := at_get (T := TE) hg
    have hi : inR (n : Int) l.length = true := inR_of (by omega) (by omega)
    have hve := hv e (List.mem_of_getElem? hg)
    simp only [List.length_cons] at hm
    have h39 : f39 e = some (false, ()) := by
      unfold f39
      simp only [dec_f (show ¬ (e.2.1.size : Int) = 0 by omega), cond_false, dec_f (show ¬ (e.2.1.size : Int) > 65536 by omega)]
    rw [f49_l2_b10007000]
    simp only [dec_t (show (n : Int) < l.length by omega), cond_true, hi, he, h39, Option.bind_some, cond_false, next64 n (by omega)]
    exact noneWrong l hl hv a b c rest (n + 1) m hd' hlt (by omega)

theorem len0 {α : Type} (l : List α) : ((l.length : Int) - 0).toNat + 1 = l.length + 1 := by omega

theorem f15_valid {l : List Ent} (h : Valid l) : f15 l = some (true, ()) := by
  have hl := h.len
  have hk := keysOf l false (by omega) l 0 (l.length + 1) [] rfl (by omega) (by omega) (by simp; omega)
  have hasc : (l.map (·.1)).Pairwise (· < ·) := by rw [List.pairwise_map]; exact h.asc
  have h40 : f40 (l.map (·.1)) = some (true, ()) := by
    unfold f40
    rw [len0]
    exact bindE (ascKeys (l.map (·.1)) (by simp; omega) (fun k hk => by obtain ⟨e, he, rfl⟩ := List.mem_map.1 hk; exact h.key e he) hasc _ 0 _ rfl (by omega) (by simp)) rfl
  unfold f15
  rw [len0]
  refine bindE hk ?_
  refine bindE h40 ?_
  show (f49_l2_b10007000 l l.length false false true (((l.length : Int) - 0).toNat + 1) 0).bind _ = _
  rw [len0]
  exact bindE (noneWrong l (by omega) h.val false false true l 0 (l.length + 1) rfl (by omega) (by omega)) rfl

/-! ### The array of digests -/
theorem at_set {l : List ByteArray} {n j : Nat} {x : ByteArray} (hn : n < l.length) : at_ .str (l.set n x) (j : Int) = if n = j then x else at_ .str l (j : Int) := by
  unfold at_
  rw [Int.toNat_natCast, List.getD_eq_getElem?_getD, List.getElem?_set]
  by_cases h : n = j
  · subst h; rw [if_pos rfl, if_pos rfl]; simp [hn]
  · rw [if_neg h, if_neg h, List.getD_eq_getElem?_getD]

theorem zeros (l : List Ent) (s : ByteArray) (q : Int) : ∀ (m n : Nat) (b : List ByteArray), n + m = 64 → b.length = 128 → (∀ j, j < n → at_ .str b ((64 + j : Nat) : Int) = zeroD) →
    ∃ b' : List ByteArray, b'.length = 128 ∧ (∀ j, j < 64 → at_ .str b' ((64 + j : Nat) : Int) = zeroD) ∧ f37_l3_b8000 l s q (m + 1) n b = some ((l, ()), ((s, q, ()), ()), ((b', ()), ()))
  | 0, n, b, hn, hb, hz => by
    have : n = 64 := by omega
    subst this
    exact ⟨b, hb, hz, rfl⟩
  | m + 1, n, b, hn, hb, hz => by
    have e1 : IntKind.wrap .i64 ((64 : Int) + n) = ((64 + n : Nat) : Int) := by rw [wrapS (by omega) (by omega)]; omega
    have i1 : inR ((64 + n : Nat) : Int) 128 = true := inR_of (by omega) (by omega)
    obtain ⟨b', k1, k2, k3⟩ := zeros l s q m (n + 1) (b.set (64 + n) zeroD) (by omega) (by simp [hb]) (fun j hj => by
      rw [at_set (by omega)]
      split
      · rfl
      · exact hz j (by omega))
    refine ⟨b', k1, k2, ?_⟩
    rw [f37_l3_b8000]
    simp only [dec_t (show (n : Int) < 64 by omega), cond_true, zero_eq.1, Option.bind_some, e1, i1, next64 n (by omega), Int.toNat_natCast]
    exact k3

theorem atK_snoc (p : List Ent) (e : Ent) (j : Int) (hp : ∀ x ∈ p, x.1 ≠ e.1) : atK (p ++ [e]) j = if e.1 = j then e.2.1 else atK p j := by
  induction p with
  | nil => rfl
  | cons x p ih =>
    have hx := hp x (by simp)
    have := ih (fun y hy => hp y (by simp [hy]))
    simp only [List.cons_append, atK]
    rw [this]
    by_cases h1 : x.1 = j
    · rw [if_pos h1, if_pos h1, if_neg (by omega)]
    · rw [if_neg h1, if_neg h1]

theorem leaves {l : List Ent} (h : Valid l) (s : ByteArray) (q : Int) : ∀ (rest : List Ent) (n m : Nat) (b : List ByteArray), l.drop n = rest → n ≤ l.length → rest.length < m → b.length = 128 →
    (∀ j : Nat, j < 64 → at_ .str b ((64 + j : Nat) : Int) = leafD j (atK (l.take n) j)) →
    ∃ b' : List ByteArray, b'.length = 128 ∧ (∀ j : Nat, j < 64 → at_ .str b' ((64 + j : Nat) : Int) = leafD j (atK l j)) ∧ f37_l8_b8000 l l.length s q m n b = some ((), ((s, q, ()), ()), ((b', ()), ()))
  | [], n, 0, _, _, _, hm, _, _ => by simp at hm
  | [], n, m + 1, b, hd, hn, _, hb, hz => by
    have hle : l.length ≤ n := List.drop_eq_nil_iff.1 hd
    rw [List.take_of_length_le hle] at hz
    refine ⟨b, hb, hz, ?_⟩
    rw [f37_l8_b8000, dec_f (by omega)]
    rfl
  | e :: rest, n, 0, _, _, _, hm, _, _ => by simp at hm
  | e :: rest, n, m + 1, b, hd, hn, hm, hb, hz => by
    obtain ⟨hlt, hg, hd'⟩ := drop_get hd
    have hl := h.len
    have he : at_ TE l (n : Int) = e := at_get (T := TE) hg
    have hi : inR (n : Int) l.length = true := inR_of (by omega) (by omega)
    have hmem : e ∈ l := List.mem_of_getElem? hg
    have hkey := h.key e hmem
    have hval := h.val e hmem
    obtain ⟨k, hk⟩ : ∃ k : Nat, e.1 = (k : Int) := ⟨e.1.toNat, by omega⟩
    have hk64 : k < 64 := by omega
    have e1 : IntKind.wrap .i64 ((64 : Int) + e.1) = ((64 + k : Nat) : Int) := by rw [hk, wrapS (by omega) (by omega)]; omega
    have i1 : inR ((64 + k : Nat) : Int) 128 = true := inR_of (by omega) (by omega)
    have h66 := f66_eq k hk64 e.2.1 hval.2
    simp only [List.length_cons] at hm
    have htake : l.take (n + 1) = l.take n ++ [e] := by
      rw [List.getElem?_eq_getElem hlt] at hg
      rw [List.take_succ_eq_append_getElem hlt, Option.some.inj hg]
    have hfresh : ∀ x ∈ l.take n, x.1 ≠ e.1 := by
      intro x hx
      obtain ⟨i, hi2, hxi⟩ := List.mem_iff_getElem.1 hx
      rw [List.length_take] at hi2
      rw [List.getElem_take] at hxi
      have := List.pairwise_iff_getElem.1 h.asc i n (by omega) hlt (by omega)
      rw [hxi] at this
      rw [List.getElem?_eq_getElem hlt] at hg
      rw [Option.some.inj hg] at this
      omega
    obtain ⟨b', k1, k2, k3⟩ := leaves h s q rest (n + 1) m (b.set (64 + k) (leafD k e.2.1)) hd' hlt (by omega) (by simp [hb]) (fun j hj => by
      rw [at_set (by omega), htake, atK_snoc _ _ _ hfresh]
      by_cases hjk : k = j
      · subst hjk
        rw [if_pos rfl, if_pos hk]
      · rw [if_neg (by omega), if_neg (by omega)]
        exact hz j hj)
    refine ⟨b', k1, k2, ?_⟩
    rw [f37_l8_b8000]
    simp only [dec_t (show (n : Int) < l.length by omega), cond_true, hi, he]
    rw [hk] at e1 ⊢
    simp only [h66, Option.bind_some, e1, i1, cond_true, next64 n (by omega), Int.toNat_natCast]
    exact k3

/-- The height of a node. -/
def hgt (i : Nat) : Nat := 6 - Nat.log2 i
theorem hgt_facts : ∀ i : Nat, i < 64 → 1 ≤ i → hgt i = hgt (2 * i) + 1 ∧ hgt (2 * i + 1) = hgt (2 * i) := by
  have h : (List.range 64).all (fun i => Nat.beq i 0 || (Nat.beq (hgt i) (hgt (2 * i) + 1) && Nat.beq (hgt (2 * i + 1)) (hgt (2 * i)))) = true := by kernel_rfl
  intro i hi h1
  have := List.all_eq_true.1 h i (List.mem_range.2 hi)
  simp only [Bool.or_eq_true, Bool.and_eq_true] at this
  rcases this with h | h
  · have := Nat.eq_of_beq_eq_true h; omega
  · exact ⟨Nat.eq_of_beq_eq_true h.1, Nat.eq_of_beq_eq_true h.2⟩
theorem hgt_leaf : ∀ j : Nat, j < 64 → hgt (64 + j) = 0 := by
  have h : (List.range 64).all (fun i => Nat.beq (hgt (64 + i)) 0) = true := by kernel_rfl
  intro i hi
  exact Nat.eq_of_beq_eq_true (List.all_eq_true.1 h i (List.mem_range.2 hi))

def Nd (l : List Ent) (i : Nat) : ByteArray := D l (hgt i) ((i : Int) * 2 ^ hgt i - 64)

theorem Nd_leaf (l : List Ent) (j : Nat) (hj : j < 64) : Nd l (64 + j) = leafD j (atK l j) := by
  unfold Nd
  rw [hgt_leaf j hj]
  have : (((64 + j : Nat) : Int) * 2 ^ 0 - 64) = j := by simp; omega
  rw [this]
  rfl

theorem Nd_join (l : List Ent) (i : Nat) (h1 : 1 ≤ i) (hi : i < 64) : Nd l i = joinD (Nd l (2 * i)) (Nd l (2 * i + 1)) := by
  obtain ⟨e1, e2⟩ := hgt_facts i hi h1
  unfold Nd
  rw [e1, e2]
  have p : (2 : Int) ^ (hgt (2 * i) + 1) = 2 ^ hgt (2 * i) * 2 := rfl
  have q1 : ((2 * i : Nat) : Int) * 2 ^ hgt (2 * i) = (i : Int) * 2 ^ (hgt (2 * i) + 1) := by
    rw [p]
    have : ((2 * i : Nat) : Int) = (i : Int) * 2 := by omega
    rw [this, Int.mul_assoc, Int.mul_comm 2]
  have q2 : ((2 * i + 1 : Nat) : Int) * 2 ^ hgt (2 * i) = (i : Int) * 2 ^ (hgt (2 * i) + 1) + 2 ^ hgt (2 * i) := by
    have : ((2 * i + 1 : Nat) : Int) = ((2 * i : Nat) : Int) + 1 := by omega
    rw [this, Int.add_mul, q1, Int.one_mul]
  rw [q1, q2]
  show joinD _ _ = _
  congr 2
  omega

theorem Nd_size {l : List Ent} (hv : ∀ e ∈ l, e.2.1.size ≤ 65536) (i : Nat) : (Nd l i).size = 32 := D_size hv _ _

theorem joins {l : List Ent} (hv : ∀ e ∈ l, e.2.1.size ≤ 65536) (s : ByteArray) (q : Int) : ∀ (i : Nat) (b : List ByteArray), i < 64 → b.length = 128 → (∀ j : Nat, i < j → j < 128 → at_ .str b (j : Int) = Nd l j) →
    ∃ b' : List ByteArray, b'.length = 128 ∧ (∀ j : Nat, 0 < j → j < 128 → at_ .str b' (j : Int) = Nd l j) ∧ f37_l13_b8000 s q (i + 1) i b = some ((), ((s, q, ()), ()), ((b', ()), ()))
  | 0, b, _, hb, hz => ⟨b, hb, hz, rfl⟩
  | i + 1, b, hi, hb, hz => by
    have e1 : IntKind.wrap .i64 ((2 : Int) * ((i + 1 : Nat) : Int)) = ((2 * (i + 1) : Nat) : Int) := by rw [wrapS (by omega) (by omega)]; omega
    have e2 : IntKind.wrap .i64 (((2 * (i + 1) : Nat) : Int) + 1) = ((2 * (i + 1) + 1 : Nat) : Int) := next64 _ (by omega)
    have e3 : IntKind.wrap .i64 (((i + 1 : Nat) : Int) - 1) = (i : Int) := by rw [wrapS (by omega) (by omega)]; omega
    have i1 : inR ((2 * (i + 1) : Nat) : Int) 128 = true := inR_of (by omega) (by omega)
    have i2 : inR ((2 * (i + 1) + 1 : Nat) : Int) 128 = true := inR_of (by omega) (by omega)
    have i3 : inR ((i + 1 : Nat) : Int) 128 = true := inR_of (by omega) (by omega)
    have a1 := hz (2 * (i + 1)) (by omega) (by omega)
    have a2 := hz (2 * (i + 1) + 1) (by omega) (by omega)
    have h67 := f67_eq (Nd l (2 * (i + 1))) (Nd l (2 * (i + 1) + 1)) (by rw [Nd_size hv]; omega) (by rw [Nd_size hv]; omega)
    rw [← Nd_join l (i + 1) (by omega) hi] at h67
    obtain ⟨b', k1, k2, k3⟩ := joins hv s q i (b.set (i + 1) (Nd l (i + 1))) (by omega) (by simp [hb]) (fun j hj hj2 => by
      rw [at_set (by omega)]
      split
      · rename_i h; subst h; rfl
      · exact hz j (by omega) hj2)
    refine ⟨b', k1, k2, ?_⟩
    rw [f37_l13_b8000]
    simp only [dec_t (show ((i + 1 : Nat) : Int) > 0 by omega), cond_true, e1, e2, i1, i2, i3, a1, a2, h67, Option.bind_some, e3, Int.toNat_natCast]
    exact k3

theorem take0 (l : List Ent) (j : Int) : atK (l.take 0) j = emp := rfl

/-- The root of a map. -/
def rootD (l : List Ent) : ByteArray := D l 6 0

set_option maxRecDepth 100000 in
theorem f13_eq {l : List Ent} (h : Valid l) : f13 l = some (rootD l, 0, ()) := by
  have hv : ∀ e ∈ l, e.2.1.size ≤ 65536 := fun e he => (h.val e he).2
  obtain ⟨b1, a1, a2, a3⟩ := zeros l emp 0 64 0 (List.replicate 128 emp) rfl (by simp) (fun j hj => by omega)
  obtain ⟨b2, c1, c2, c3⟩ := leaves h emp 0 l 0 (l.length + 1) b1 rfl (by omega) (by omega) a1 (fun j hj => by rw [take0, a2 j hj]; unfold leafD; rw [if_pos rfl])
  obtain ⟨b3, d1, d2, d3⟩ := joins hv emp 0 63 b2 (by omega) c1 (fun j hj hj2 => by
    have := c2 (j - 64) (by omega)
    have e : 64 + (j - 64) = j := by omega
    rw [e] at this
    rw [this, ← Nd_leaf l (j - 64) (by omega), e])
  unfold f13
  refine bindE (f15_valid h) ?_
  simp only [Bool.not_true, cond_false]
  rw [show ((64 : Int) - 0).toNat + 1 = 64 + 1 from rfl]
  refine bindE (show f37_l3_b8000 l ⟨#[]⟩ 0 (64 + 1) 0 (List.replicate 128 ⟨#[]⟩) = some ((l, ()), ((emp, 0, ()), ()), ((b1, ()), ())) from a3) ?_
  simp only
  rw [len0]
  refine bindE c3 ?_
  simp only
  rw [show (63 : Int).toNat + 1 = 63 + 1 from rfl]
  refine bindE (show f37_l13_b8000 emp 0 (63 + 1) 63 b2 = some ((), ((emp, 0, ()), ()), ((b3, ()), ())) from d3) ?_
  simp only
  have hr : at_ .str b3 (1 : Int) = rootD l := by
    have := d2 1 (by omega) (by omega)
    rw [show ((1 : Nat) : Int) = 1 from rfl] at this
    rw [this]
    rfl
  show (bif inR (1 : Int) 128 then some (at_ .str b3 1, (0 : Int), ()) else none) = _
  rw [hr]
  rfl

end Go.V.G
