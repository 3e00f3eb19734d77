/- Openings: which parts are visited. -/
import Derived.Test.YtccdkoimpoockaaDoorPA
set_option linter.all false
set_option linter.unusedVariables false
set_option linter.unusedSectionVars false
set_option linter.unusedSimpArgs false
namespace Go.V.G

/-! ### Keys -/
structure KeysOk (K : List Int) : Prop where
  key : ∀ k ∈ K, 0 ≤ k ∧ k < 64
  asc : K.Pairwise (· < ·)

theorem KeysOk.len {K : List Int} (h : KeysOk K) : K.length ≤ 64 := by
  have := asc_len (K.map fun k => (k, emp, ())) 0 (fun e he => by
    obtain ⟨k, hk, rfl⟩ := List.mem_map.1 he
    exact h.key k hk) (by rw [List.pairwise_map]; exact h.asc) (by omega)
  simp at this
  omega

def keysB : Option Int → List Int → Bool
  | _, [] => true
  | p, k :: r => decide (0 ≤ k) && decide (k < 64) && (match p with | none => true | some q => decide (q < k)) && keysB (some k) r

theorem keysB_some {q : Int} : ∀ {K : List Int}, keysB (some q) K = true ↔ (KeysOk K ∧ ∀ k ∈ K, q < k)
  | [] => ⟨fun _ => ⟨⟨(fun _ h => nomatch h), .nil⟩, (fun _ h => nomatch h)⟩, fun _ => rfl⟩
  | k :: r => by
    unfold keysB
    simp only [Bool.and_eq_true, decide_eq_true_eq, keysB_some (q := k) (K := r)]
    constructor
    · rintro ⟨⟨⟨h1, h2⟩, h3⟩, h4, h5⟩
      refine ⟨⟨fun x hx => ?_, List.pairwise_cons.2 ⟨h5, h4.asc⟩⟩, fun x hx => ?_⟩
      · rcases List.mem_cons.1 hx with rfl | hx
        · exact ⟨h1, h2⟩
        · exact h4.key x hx
      · rcases List.mem_cons.1 hx with rfl | hx
        · exact h3
        · have := h5 x hx; omega
    · rintro ⟨h1, h2⟩
      have h3 := List.pairwise_cons.1 h1.asc
      have h4 := h1.key k (by simp)
      exact ⟨⟨⟨h4.1, h4.2⟩, h2 k (by simp)⟩, ⟨fun x hx => h1.key x (by simp [hx]), h3.2⟩, h3.1⟩

theorem keysB_none : ∀ {K : List Int}, keysB none K = true ↔ KeysOk K
  | [] => ⟨fun _ => ⟨(fun _ h => nomatch h), .nil⟩, fun _ => rfl⟩
  | k :: r => by
    unfold keysB
    simp only [Bool.and_eq_true, decide_eq_true_eq, keysB_some (q := k) (K := r), and_true]
    constructor
    · rintro ⟨⟨h1, h2⟩, h4, h5⟩
      refine ⟨fun x hx => ?_, List.pairwise_cons.2 ⟨h5, h4.asc⟩⟩
      rcases List.mem_cons.1 hx with rfl | hx
      · exact ⟨h1, h2⟩
      · exact h4.key x hx
    · intro h1
      have h3 := List.pairwise_cons.1 h1.asc
      have h4 := h1.key k (by simp)
      exact ⟨⟨h4.1, h4.2⟩, ⟨fun x hx => h1.key x (by simp [hx]), h3.2⟩, h3.1⟩

def prevOf (K : List Int) : Nat → Option Int
  | 0 => none
  | n + 1 => K[n]?

theorem keys_loop (ks : List Int) (hl : ks.length ≤ 1000000) : ∀ (rest : List Int) (n m : Nat), ks.drop n = rest → n ≤ ks.length → rest.length < m →
    f40_l2 ks ks ks.length m n = some (if keysB (prevOf ks n) rest then .inl ((), (), ()) else .inr ((false, ()), (), ()))
  | [], n, 0, _, _, hm => by simp at hm
  | [], n, m + 1, hd, hn, _ => by
    have : ks.length ≤ n := List.drop_eq_nil_iff.1 hd
    rw [f40_l2, dec_f (by omega)]
    rfl
  | k :: rest, n, 0, _, _, hm => by simp at hm
  | k :: rest, n, m + 1, hd, hn, hm => by
    obtain ⟨hlt, hg, hd'⟩ := drop_get hd
    have hk : at_ (.int .i64) ks (n : Int) = k := at_get (T := .int .i64) hg
    have hi : inR (n : Int) ks.length = true := inR_of (by omega) (by omega)
    simp only [List.length_cons] at hm
    have ih := keys_loop ks hl rest (n + 1) m hd' hlt (by omega)
    have hpn : prevOf ks (n + 1) = some k := hg
    rw [hpn] at ih
    rw [f40_l2]
    simp only [dec_t (show (n : Int) < ks.length by omega), cond_true, hi, hk, next64 n (by omega)]
    unfold keysB
    by_cases h1 : k < 0
    · rw [dec_t h1, dec_f (show ¬ 0 ≤ k by omega)]; rfl
    · by_cases h2 : k ≥ 64
      · rw [dec_f h1, dec_t h2, dec_t (show 0 ≤ k by omega), dec_f (show ¬ k < 64 by omega)]; rfl
      · rw [dec_f h1, dec_f h2, dec_t (show 0 ≤ k by omega), dec_t (show k < 64 by omega)]
        simp only [cond_false, Bool.true_and]
        cases n with
        | zero => rw [dec_f (by omega)]; simp only [cond_false, prevOf, Bool.true_and]; exact ih
        | succ n =>
          have hp : IntKind.wrap .i64 (((n + 1 : Nat) : Int) - 1) = (n : Int) := by rw [wrapS (by omega) (by omega)]; omega
          have hg2 : ks[n]? = some ks[n] := List.getElem?_eq_getElem (by omega)
          have hk2 : at_ (.int .i64) ks (n : Int) = ks[n] := at_get (T := .int .i64) hg2
          rw [dec_t (by omega)]
          simp only [cond_true, hp, inR_of (show (0 : Int) ≤ n by omega) (show (n : Int) < ks.length by omega), hk2, prevOf, hg2]
          by_cases h3 : k ≤ ks[n]
          · rw [dec_t h3, dec_f (show ¬ ks[n] < k by omega)]; rfl
          · rw [dec_f h3, dec_t (show ks[n] < k by omega)]
            simp only [cond_false, Bool.true_and]
            exact ih

theorem f40_eq (K : List Int) (hl : K.length ≤ 1000000) : f40 K = some (keysB none K, ()) := by
  unfold f40
  rw [len0]
  refine bindE (keys_loop K hl K 0 _ rfl (by omega) (by omega)) ?_
  show Sum.elim _ _ (if keysB none K = true then _ else _) = _
  cases keysB none K <;> rfl

/-! ### Marks -/
def ancB (i : Nat) : Nat → Nat → Bool
  | 0, _ => false
  | f + 1, m => if m = 0 then false else (Nat.beq m i || ancB i f (m / 2))

def low (i : Nat) : Int := (i : Int) * 2 ^ hgt i - 64
def inW (k : Int) (i : Nat) : Bool := decide (low i ≤ k) && decide (k < low i + 2 ^ hgt i)

theorem anc_in : ∀ i k : Nat, 0 < i → i < 128 → k < 64 → ancB i 7 (64 + k) = inW k i := by
  have h : (List.range 128).all (fun i => Nat.beq i 0 || (List.range 64).all fun k => ancB i 7 (64 + k) == inW k i) = true := by kernel_rfl
  intro i k h1 h2 h3
  have := List.all_eq_true.1 h i (List.mem_range.2 h2)
  simp only [Bool.or_eq_true] at this
  rcases this with h | h
  · have := Nat.eq_of_beq_eq_true h; omega
  · exact beq_iff_eq.1 (List.all_eq_true.1 h k (List.mem_range.2 h3))

/-- Whether a part is responsible for one of some keys. -/
def M (K : List Int) (i : Nat) : Bool := K.any fun k => inW k i

theorem bat_set {l : List Bool} {n j : Nat} {x : Bool} (hn : n < l.length) : at_ .bool (l.set n x) (j : Int) = if n = j then x else at_ .bool l (j : Int) := by
  unfold at_
  rw [Int.toNat_natCast, List.getD_eq_getElem?_getD, List.getElem?_set]
  by_cases h : n = j
  · subst h; rw [if_pos rfl, if_pos rfl]; simp [hn]
  · rw [if_neg h, if_neg h, List.getD_eq_getElem?_getD]

theorem half (m : Nat) (hm : m < 128) : IntKind.wrap .i64 (Int.tdiv (m : Int) 2) = ((m / 2 : Nat) : Int) := by
  have : Int.tdiv (m : Int) 2 = ((m / 2 : Nat) : Int) := by
    rw [Int.tdiv_eq_ediv_of_nonneg (by omega)]; omega
  rw [this, wrapS (by omega) (by omega)]

theorem nat_lt_of {m : Nat} : (0 < (m : Int)) ↔ m ≠ 0 := by omega

theorem mark1_25000 (t13 : List Int) (t14 t15 k0 : Int) (b7 : List Int) (b2 : List Ent) (b18 : List ByteArray) : ∀ (f fuel m : Nat) (b : List Bool), f < fuel → m < 2 ^ f → m < 128 → b.length = 128 →
    ∃ b' : List Bool, b'.length = 128 ∧ (∀ i : Nat, at_ .bool b' (i : Int) = (at_ .bool b (i : Int) || ancB i f m)) ∧
      f46_l6_b25000 t13 t14 t15 k0 b7 b2 b18 fuel m b = some ((t13, t14, t15, ()), ((k0, ()), ()), ((), (), (b', ()), (), (b7, ()), (), (b2, ()), (b18, ()), ()))
  | f, 0, _, _, hf, _, _, _ => by omega
  | 0, fuel + 1, m, b, _, hm, _, hb => by
    have : m = 0 := by simp at hm; omega
    subst this
    refine ⟨b, hb, fun i => by simp [ancB], ?_⟩
    rw [f46_l6_b25000, dec_f (by omega)]
    rfl
  | f + 1, fuel + 1, m, b, hf, hm, h128, hb => by
    by_cases h0 : m = 0
    · subst h0
      refine ⟨b, hb, fun i => by simp [ancB], ?_⟩
      rw [f46_l6_b25000, dec_f (by omega)]
      rfl
    · have hp : 2 ^ (f + 1) = 2 ^ f * 2 := rfl
      obtain ⟨b', h1, h2, h3⟩ := mark1_25000 t13 t14 t15 k0 b7 b2 b18 f fuel (m / 2) (b.set m true) (by omega) (by omega) (by omega) (by simp [hb])
      refine ⟨b', h1, fun i => ?_, ?_⟩
      · rw [h2 i, bat_set (by omega)]
        rw [ancB, if_neg h0]
        by_cases hmi : m = i
        · subst hmi; rw [if_pos rfl]; simp
        · rw [if_neg hmi, show Nat.beq m i = false from by cases h : Nat.beq m i; rfl; exact absurd (Nat.eq_of_beq_eq_true h) hmi, Bool.false_or]
      · rw [f46_l6_b25000]
        simp only [dec_t (show (m : Int) > 0 by omega), cond_true, inR_of (show (0 : Int) ≤ m by omega) (show (m : Int) < (128 : Nat) by omega), half m h128, Int.toNat_natCast]
        exact h3

theorem marks_25000 (K : List Int) (hK : KeysOk K) (k0 : Int) (b7 : List Int) (b2 : List Ent) (b18 : List ByteArray) : ∀ (rest : List Int) (n m : Nat) (b : List Bool), K.drop n = rest → n ≤ K.length → rest.length < m → b.length = 128 →
    ∃ b' : List Bool, b'.length = 128 ∧ (∀ i : Nat, at_ .bool b' (i : Int) = (at_ .bool b (i : Int) || rest.any fun k => ancB i 7 (64 + k.toNat))) ∧
      f46_l3_b25000 m K K.length n k0 b b7 b2 b18 = some ((), ((k0, ()), ()), ((), (), (b', ()), (), (b7, ()), (), (b2, ()), (b18, ()), ()))
  | [], n, 0, _, _, _, hm, _ => by simp at hm
  | [], n, m + 1, b, hd, hn, _, hb => by
    have : K.length ≤ n := List.drop_eq_nil_iff.1 hd
    refine ⟨b, hb, fun i => by simp, ?_⟩
    rw [f46_l3_b25000, dec_f (by omega)]
    rfl
  | k :: rest, n, 0, _, _, _, hm, _ => by simp at hm
  | k :: rest, n, m + 1, b, hd, hn, hm, hb => by
    obtain ⟨hlt, hg, hd'⟩ := drop_get hd
    have hl := hK.len
    have hk : at_ (.int .i64) K (n : Int) = k := at_get (T := .int .i64) hg
    have hkr := hK.key k (List.mem_of_getElem? hg)
    have hi : inR (n : Int) K.length = true := inR_of (by omega) (by omega)
    simp only [List.length_cons] at hm
    obtain ⟨q, hq⟩ : ∃ q : Nat, k = (q : Int) := ⟨k.toNat, by omega⟩
    have e1 : IntKind.wrap .i64 ((64 : Int) + k) = ((64 + q : Nat) : Int) := by rw [hq, wrapS (by omega) (by omega)]; omega
    obtain ⟨b1, h1, h2, h3⟩ := mark1_25000 K K.length n k0 b7 b2 b18 7 ((64 + q) + 1) (64 + q) b (by omega) (by omega) (by omega) hb
    obtain ⟨b', h4, h5, h6⟩ := marks_25000 K hK k0 b7 b2 b18 rest (n + 1) m b1 hd' hlt (by omega) h1
    refine ⟨b', h4, fun i => ?_, ?_⟩
    · rw [h5 i, h2 i, List.any_cons, Bool.or_assoc, hq, Int.toNat_natCast]
    · rw [f46_l3_b25000]
      simp only [dec_t (show (n : Int) < K.length by omega), cond_true, hi, hk, e1, Int.toNat_natCast, h3]
      rw [← next64 n (by omega)] at h6
      exact h6
theorem mark1_42000 (t13 : List Int) (t14 t15 : Int) (k0 : ByteArray) (k1 : Bool) (b2 : List Int) (b3 b4 : List ByteArray) (b10 : Int) (b8 b9 : List ByteArray) : ∀ (f fuel m : Nat) (b : List Bool), f < fuel → m < 2 ^ f → m < 128 → b.length = 128 →
    ∃ b' : List Bool, b'.length = 128 ∧ (∀ i : Nat, at_ .bool b' (i : Int) = (at_ .bool b (i : Int) || ancB i f m)) ∧
      f46_l6_b42000 t13 t14 t15 k0 k1 b2 b3 b4 b10 b8 b9 fuel m b = some ((t13, t14, t15, ()), ((k0, k1, ()), ()), ((), (), (b', ()), (b2, b3, b4, ()), (b10, ()), (b8, ()), (b9, ()), ()))
  | f, 0, _, _, hf, _, _, _ => by omega
  | 0, fuel + 1, m, b, _, hm, _, hb => by
    have : m = 0 := by simp at hm; omega
    subst this
    refine ⟨b, hb, fun i => by simp [ancB], ?_⟩
    rw [f46_l6_b42000, dec_f (by omega)]
    rfl
  | f + 1, fuel + 1, m, b, hf, hm, h128, hb => by
    by_cases h0 : m = 0
    · subst h0
      refine ⟨b, hb, fun i => by simp [ancB], ?_⟩
      rw [f46_l6_b42000, dec_f (by omega)]
      rfl
    · have hp : 2 ^ (f + 1) = 2 ^ f * 2 := rfl
      obtain ⟨b', h1, h2, h3⟩ := mark1_42000 t13 t14 t15 k0 k1 b2 b3 b4 b10 b8 b9 f fuel (m / 2) (b.set m true) (by omega) (by omega) (by omega) (by simp [hb])
      refine ⟨b', h1, fun i => ?_, ?_⟩
      · rw [h2 i, bat_set (by omega)]
        rw [ancB, if_neg h0]
        by_cases hmi : m = i
        · subst hmi; rw [if_pos rfl]; simp
        · rw [if_neg hmi, show Nat.beq m i = false from by cases h : Nat.beq m i; rfl; exact absurd (Nat.eq_of_beq_eq_true h) hmi, Bool.false_or]
      · rw [f46_l6_b42000]
        simp only [dec_t (show (m : Int) > 0 by omega), cond_true, inR_of (show (0 : Int) ≤ m by omega) (show (m : Int) < (128 : Nat) by omega), half m h128, Int.toNat_natCast]
        exact h3

theorem marks_42000 (K : List Int) (hK : KeysOk K) (k0 : ByteArray) (k1 : Bool) (b2 : List Int) (b3 b4 : List ByteArray) (b10 : Int) (b8 b9 : List ByteArray) : ∀ (rest : List Int) (n m : Nat) (b : List Bool), K.drop n = rest → n ≤ K.length → rest.length < m → b.length = 128 →
    ∃ b' : List Bool, b'.length = 128 ∧ (∀ i : Nat, at_ .bool b' (i : Int) = (at_ .bool b (i : Int) || rest.any fun k => ancB i 7 (64 + k.toNat))) ∧
      f46_l3_b42000 m K K.length n k0 k1 b b2 b3 b4 b10 b8 b9 = some ((), ((k0, k1, ()), ()), ((), (), (b', ()), (b2, b3, b4, ()), (b10, ()), (b8, ()), (b9, ()), ()))
  | [], n, 0, _, _, _, hm, _ => by simp at hm
  | [], n, m + 1, b, hd, hn, _, hb => by
    have : K.length ≤ n := List.drop_eq_nil_iff.1 hd
    refine ⟨b, hb, fun i => by simp, ?_⟩
    rw [f46_l3_b42000, dec_f (by omega)]
    rfl
  | k :: rest, n, 0, _, _, _, hm, _ => by simp at hm
  | k :: rest, n, m + 1, b, hd, hn, hm, hb => by
    obtain ⟨hlt, hg, hd'⟩ := drop_get hd
    have hl := hK.len
    have hk : at_ (.int .i64) K (n : Int) = k := at_get (T := .int .i64) hg
    have hkr := hK.key k (List.mem_of_getElem? hg)
    have hi : inR (n : Int) K.length = true := inR_of (by omega) (by omega)
    simp only [List.length_cons] at hm
    obtain ⟨q, hq⟩ : ∃ q : Nat, k = (q : Int) := ⟨k.toNat, by omega⟩
    have e1 : IntKind.wrap .i64 ((64 : Int) + k) = ((64 + q : Nat) : Int) := by rw [hq, wrapS (by omega) (by omega)]; omega
    obtain ⟨b1, h1, h2, h3⟩ := mark1_42000 K K.length n k0 k1 b2 b3 b4 b10 b8 b9 7 ((64 + q) + 1) (64 + q) b (by omega) (by omega) (by omega) hb
    obtain ⟨b', h4, h5, h6⟩ := marks_42000 K hK k0 k1 b2 b3 b4 b10 b8 b9 rest (n + 1) m b1 hd' hlt (by omega) h1
    refine ⟨b', h4, fun i => ?_, ?_⟩
    · rw [h5 i, h2 i, List.any_cons, Bool.or_assoc, hq, Int.toNat_natCast]
    · rw [f46_l3_b42000]
      simp only [dec_t (show (n : Int) < K.length by omega), cond_true, hi, hk, e1, Int.toNat_natCast, h3]
      rw [← next64 n (by omega)] at h6
      exact h6

theorem bat_repl (i : Nat) : at_ .bool (List.replicate 128 false) (i : Int) = false := by
  unfold at_
  rw [Int.toNat_natCast, List.getD_eq_getElem?_getD, List.getElem?_replicate]
  split <;> rfl

theorem marked_eq {K : List Int} (hK : KeysOk K) {b' : List Bool} (h : ∀ i : Nat, at_ .bool b' (i : Int) = (at_ .bool (List.replicate 128 false) (i : Int) || K.any fun k => ancB i 7 (64 + k.toNat))) : ∀ i : Nat, 0 < i → i < 128 → at_ .bool b' (i : Int) = M K i := by
  intro i h1 h2
  rw [h i, bat_repl, Bool.false_or]
  unfold M
  rw [Bool.eq_iff_iff, List.any_eq_true, List.any_eq_true]
  constructor
  · rintro ⟨k, hk, hx⟩
    refine ⟨k, hk, ?_⟩
    have := hK.key k hk
    rw [anc_in i k.toNat h1 h2 (by omega)] at hx
    rwa [Int.toNat_of_nonneg this.1] at hx
  · rintro ⟨k, hk, hx⟩
    refine ⟨k, hk, ?_⟩
    have := hK.key k hk
    rw [anc_in i k.toNat h1 h2 (by omega), Int.toNat_of_nonneg this.1]
    exact hx

end Go.V.G
namespace Go.V.G

/-! ### What is visited -/
structure Nod (h i : Nat) : Prop where
  hh : h = hgt i
  pos : 0 < i
  lt : i < 128

theorem hgt_le : ∀ i : Nat, i < 128 → hgt i ≤ 6 := by intro i _; unfold hgt; omega

theorem Nod.zero {i : Nat} (h : Nod 0 i) : 64 ≤ i := by
  have := h.hh; have := h.pos
  by_cases hi : i < 64
  · have := (hgt_facts i hi h.pos).1; omega
  · omega
theorem Nod.succ {h i : Nat} (n : Nod (h + 1) i) : i < 64 := by
  by_cases hi : i < 64
  · exact hi
  · have h1 := hgt_leaf (i - 64) (by have := n.lt; omega)
    rw [show 64 + (i - 64) = i by omega] at h1
    have := n.hh; omega
theorem Nod.left {h i : Nat} (n : Nod (h + 1) i) : Nod h (2 * i) := by
  have := n.succ; have h1 := (hgt_facts i this n.pos).1; have := n.hh; have := n.pos
  exact ⟨by omega, by omega, by omega⟩
theorem Nod.right {h i : Nat} (n : Nod (h + 1) i) : Nod h (2 * i + 1) := by
  have := n.succ; have h1 := hgt_facts i this n.pos; have := n.hh; have := n.pos
  exact ⟨by omega, by omega, by omega⟩
theorem nod_root : Nod 6 1 := ⟨by kernel_rfl, by omega, by omega⟩

theorem low_left {i : Nat} (h0 : 0 < i) (hi : i < 64) : low (2 * i) = low i := by
  have h1 := (hgt_facts i hi h0).1
  unfold low
  rw [h1]
  have p : (2 : Int) ^ (hgt (2 * i) + 1) = 2 ^ hgt (2 * i) * 2 := rfl
  rw [p, show ((2 * i : Nat) : Int) = (i : Int) * 2 by omega, Int.mul_assoc, Int.mul_comm 2]
theorem low_right {i : Nat} (h0 : 0 < i) (hi : i < 64) : low (2 * i + 1) = low i + 2 ^ hgt (2 * i) := by
  have h1 := (hgt_facts i hi h0).2
  have h2 := low_left h0 hi
  unfold low at h2 ⊢
  rw [h1, show ((2 * i + 1 : Nat) : Int) = ((2 * i : Nat) : Int) + 1 by omega, Int.add_mul, Int.one_mul, ← h2]
  omega
theorem pow_up {i : Nat} (h0 : 0 < i) (hi : i < 64) : (2 : Int) ^ hgt i = 2 ^ hgt (2 * i) + 2 ^ hgt (2 * i) := by
  rw [(hgt_facts i hi h0).1]
  have p : (2 : Int) ^ (hgt (2 * i) + 1) = 2 ^ hgt (2 * i) * 2 := rfl
  rw [p]; omega
theorem low_leaf {i : Nat} (h : Nod 0 i) : low i = (i : Int) - 64 := by
  unfold low; rw [← h.hh]; simp

/-- The keys that are visited in a part. -/
def kv (K : List Int) : Nat → Nat → List Int
  | 0, i => if M K i then [(i : Int) - 64] else []
  | h + 1, i => if M K i then kv K h (2 * i) ++ kv K h (2 * i + 1) else []

/-- What a function says of the closed parts. -/
def pc {α : Type} (K : List Int) (T : Nat → α) : Nat → Nat → List α
  | 0, i => if M K i then [] else [T i]
  | h + 1, i => if M K i then pc K T h (2 * i) ++ pc K T h (2 * i + 1) else [T i]

theorem kv_len (K : List Int) : ∀ h i, (kv K h i).length ≤ 2 ^ h
  | 0, i => by unfold kv; split <;> simp
  | h + 1, i => by
    have h1 := kv_len K h (2 * i); have h2 := kv_len K h (2 * i + 1)
    have : 2 ^ (h + 1) = 2 ^ h * 2 := rfl
    unfold kv; split
    · rw [List.length_append]; omega
    · simp
theorem pc_len {α : Type} (K : List Int) (T : Nat → α) : ∀ h i, (pc K T h i).length ≤ 2 ^ h
  | 0, i => by unfold pc; split <;> simp
  | h + 1, i => by
    have h1 := pc_len K T h (2 * i); have h2 := pc_len K T h (2 * i + 1)
    have : 2 ^ (h + 1) = 2 ^ h * 2 := rfl
    have := Nat.two_pow_pos h
    unfold pc; split
    · rw [List.length_append]; omega
    · simp; omega

theorem filt_join (K : List Int) (a b c : Int) (hab : a ≤ b) (hbc : b ≤ c) (hs : K.Pairwise (· < ·)) :
    K.filter (fun k => decide (a ≤ k) && decide (k < b)) ++ K.filter (fun k => decide (b ≤ k) && decide (k < c)) = K.filter (fun k => decide (a ≤ k) && decide (k < c)) := by
  induction K with
  | nil => rfl
  | cons k r ih =>
    rw [List.pairwise_cons] at hs
    have ih := ih hs.2
    simp only [List.filter_cons]
    by_cases h1 : k < b
    · rw [dec_f (show ¬ b ≤ k by omega), dec_t h1, dec_t (show k < c by omega)]
      simp only [Bool.and_true, Bool.false_and]
      by_cases h2 : a ≤ k
      · rw [dec_t h2]; simp only [if_true, List.cons_append]; rw [← ih]; simp
      · rw [dec_f h2]; simp only [Bool.false_eq_true, if_false]; rw [← ih]
    · have none : r.filter (fun k => decide (a ≤ k) && decide (k < b)) = [] := by
        rw [List.filter_eq_nil_iff]
        intro x hx
        have := hs.1 x hx
        simp; omega
      rw [none] at ih ⊢
      rw [List.nil_append] at ih
      rw [dec_f h1, dec_t (show b ≤ k by omega), dec_t (show a ≤ k by omega)]
      simp only [Bool.and_false, Bool.true_and]
      rw [ih]
      simp

theorem filt_one (K : List Int) (a : Int) (hs : K.Pairwise (· < ·)) : K.filter (fun k => decide (a ≤ k) && decide (k < a + 1)) = if a ∈ K then [a] else [] := by
  induction K with
  | nil => rfl
  | cons k r ih =>
    rw [List.pairwise_cons] at hs
    rw [List.filter_cons, ih hs.2]
    by_cases h : k = a
    · subst h
      have : k ∉ r := fun hx => by have := hs.1 k hx; omega
      rw [dec_t (Int.le_refl k), dec_t (show k < k + 1 by omega)]
      simp [this]
    · by_cases h2 : a ∈ r
      · have : (decide (a ≤ k) && decide (k < a + 1)) = false := by simp; omega
        rw [this]; simp [h2]
      · have : (decide (a ≤ k) && decide (k < a + 1)) = false := by simp; omega
        rw [this]; simp [h2, Ne.symm h]

theorem kv_eq (K : List Int) (hs : K.Pairwise (· < ·)) : ∀ h i, Nod h i → kv K h i = K.filter (fun k => inW k i)
  | 0, i, n => by
    have e : K.filter (fun k => inW k i) = if low i ∈ K then [low i] else [] := by
      unfold inW
      rw [← n.hh]
      exact filt_one K (low i) hs
    rw [e, low_leaf n]
    unfold kv
    have : M K i = true ↔ (i : Int) - 64 ∈ K := by
      unfold M
      rw [List.any_eq_true]
      constructor
      · rintro ⟨k, hk, hw⟩
        unfold inW at hw
        rw [← n.hh, low_leaf n] at hw
        simp at hw
        rw [show (i : Int) - 64 = k by omega]; exact hk
      · intro hk
        refine ⟨_, hk, ?_⟩
        unfold inW
        rw [← n.hh, low_leaf n]
        simp; omega
    by_cases hm : M K i = true
    · rw [if_pos hm, if_pos (this.1 hm)]
    · rw [if_neg hm, if_neg (fun h => hm (this.2 h))]
  | h + 1, i, n => by
    have hi := n.succ
    have e : K.filter (fun k => inW k i) = K.filter (fun k => inW k (2 * i)) ++ K.filter (fun k => inW k (2 * i + 1)) := by
      unfold inW
      rw [low_right n.pos hi, low_left n.pos hi, (hgt_facts i hi n.pos).2, pow_up n.pos hi]
      have hp : 0 < (2 : Int) ^ hgt (2 * i) := Int.pow_pos (by omega)
      rw [← Int.add_assoc]
      exact (filt_join K (low i) (low i + 2 ^ hgt (2 * i)) (low i + 2 ^ hgt (2 * i) + 2 ^ hgt (2 * i)) (by omega) (by omega) hs).symm
    unfold kv
    by_cases hm : M K i = true
    · rw [if_pos hm, kv_eq K hs h _ n.left, kv_eq K hs h _ n.right, e]
    · rw [if_neg hm]
      symm
      rw [List.filter_eq_nil_iff]
      intro k hk hw
      exact hm (List.any_eq_true.2 ⟨k, hk, hw⟩)

theorem kv_root {K : List Int} (h : KeysOk K) : kv K 6 1 = K := by
  rw [kv_eq K h.asc 6 1 nod_root, List.filter_eq_self]
  intro k hk
  have := h.key k hk
  unfold inW
  rw [show low 1 = 0 by kernel_rfl, show hgt 1 = 6 by kernel_rfl]
  simp; omega

/-! ### The digests of all parts -/
theorem zeros18 (l : List Ent) (s : List Int) (q : Int) (z : List Ent) : ∀ (m n : Nat) (b : List ByteArray), n + m = 64 → b.length = 128 → (∀ j, j < n → at_ .str b ((64 + j : Nat) : Int) = zeroD) →
    ∃ b' : List ByteArray, b'.length = 128 ∧ (∀ j, j < 64 → at_ .str b' ((64 + j : Nat) : Int) = zeroD) ∧ f37_l3_b18000 l s q z (m + 1) n b = some ((l, ()), ((s, q, ()), ()), ((b', ()), (z, ()), (), ()))
  | 0, n, b, hn, hb, hz => by
    have : n = 64 := by omega
    subst this
    exact ⟨b, hb, hz, rfl⟩
  | m + 1, n, b, hn, hb, hz => by
    have e1 : IntKind.wrap .i64 ((64 : Int) + n) = ((64 + n : Nat) : Int) := by rw [wrapS (by omega) (by omega)]; omega
    have i1 : inR ((64 + n : Nat) : Int) 128 = true := inR_of (by omega) (by omega)
    obtain ⟨b', k1, k2, k3⟩ := zeros18 l s q z m (n + 1) (b.set (64 + n) zeroD) (by omega) (by simp [hb]) (fun j hj => by
      rw [at_set (by omega)]
      split
      · rfl
      · exact hz j (by omega))
    refine ⟨b', k1, k2, ?_⟩
    rw [f37_l3_b18000]
    simp only [dec_t (show (n : Int) < 64 by omega), cond_true, zero_eq.1, Option.bind_some, e1, i1, next64 n (by omega), Int.toNat_natCast]
    exact k3

theorem leaves18 {l : List Ent} (h : Valid l) (s : List Int) (q : Int) (z : List Ent) : ∀ (rest : List Ent) (n m : Nat) (b : List ByteArray), l.drop n = rest → n ≤ l.length → rest.length < m → b.length = 128 →
    (∀ j : Nat, j < 64 → at_ .str b ((64 + j : Nat) : Int) = leafD j (atK (l.take n) j)) →
    ∃ b' : List ByteArray, b'.length = 128 ∧ (∀ j : Nat, j < 64 → at_ .str b' ((64 + j : Nat) : Int) = leafD j (atK l j)) ∧ f37_l8_b18000 l l.length s q z m n b = some ((), ((s, q, ()), ()), ((b', ()), (z, ()), (), ()))
  | [], n, 0, _, _, _, hm, _, _ => by simp at hm
  | [], n, m + 1, b, hd, hn, _, hb, hz => by
    have hle : l.length ≤ n := List.drop_eq_nil_iff.1 hd
    rw [List.take_of_length_le hle] at hz
    refine ⟨b, hb, hz, ?_⟩
    rw [f37_l8_b18000, dec_f (by omega)]
    rfl
  | e :: rest, n, 0, _, _, _, hm, _, _ => by simp at hm
  | e :: rest, n, m + 1, b, hd, hn, hm, hb, hz => by
    obtain ⟨hlt, hg, hd'⟩ := drop_get hd
    have hl := h.len
    have he : at_ TE l (n : Int) = e := at_get (T := TE) hg
    have hi : inR (n : Int) l.length = true := inR_of (by omega) (by omega)
    have hmem : e ∈ l := List.mem_of_getElem? hg
    have hkey := h.key e hmem
    have hval := h.val e hmem
    obtain ⟨k, hk⟩ : ∃ k : Nat, e.1 = (k : Int) := ⟨e.1.toNat, by omega⟩
    have hk64 : k < 64 := by omega
    have e1 : IntKind.wrap .i64 ((64 : Int) + e.1) = ((64 + k : Nat) : Int) := by rw [hk, wrapS (by omega) (by omega)]; omega
    have i1 : inR ((64 + k : Nat) : Int) 128 = true := inR_of (by omega) (by omega)
    have h66 := f66_eq k hk64 e.2.1 hval.2
    simp only [List.length_cons] at hm
    have htake : l.take (n + 1) = l.take n ++ [e] := by
      rw [List.getElem?_eq_getElem hlt] at hg
      rw [List.take_succ_eq_append_getElem hlt, Option.some.inj hg]
    have hfresh : ∀ x ∈ l.take n, x.1 ≠ e.1 := by
      intro x hx
      obtain ⟨i, hi2, hxi⟩ := List.mem_iff_getElem.1 hx
      rw [List.length_take] at hi2
      rw [List.getElem_take] at hxi
      have := List.pairwise_iff_getElem.1 h.asc i n (by omega) hlt (by omega)
      rw [hxi] at this
      rw [List.getElem?_eq_getElem hlt] at hg
      rw [Option.some.inj hg] at this
      omega
    obtain ⟨b', k1, k2, k3⟩ := leaves18 h s q z rest (n + 1) m (b.set (64 + k) (leafD k e.2.1)) hd' hlt (by omega) (by simp [hb]) (fun j hj => by
      rw [at_set (by omega), htake, atK_snoc _ _ _ hfresh]
      by_cases hjk : k = j
      · subst hjk
        rw [if_pos rfl, if_pos hk]
      · rw [if_neg (by omega), if_neg (by omega)]
        exact hz j hj)
    refine ⟨b', k1, k2, ?_⟩
    rw [f37_l8_b18000]
    simp only [dec_t (show (n : Int) < l.length by omega), cond_true, hi, he]
    rw [hk] at e1 ⊢
    simp only [h66, Option.bind_some, e1, i1, cond_true, next64 n (by omega), Int.toNat_natCast]
    exact k3

theorem joins18 {l : List Ent} (hv : ∀ e ∈ l, e.2.1.size ≤ 65536) (s : List Int) (q : Int) (z : List Ent) : ∀ (i : Nat) (b : List ByteArray), i < 64 → b.length = 128 → (∀ j : Nat, i < j → j < 128 → at_ .str b (j : Int) = Nd l j) →
    ∃ b' : List ByteArray, b'.length = 128 ∧ (∀ j : Nat, 0 < j → j < 128 → at_ .str b' (j : Int) = Nd l j) ∧ f37_l13_b18000 s q z (i + 1) i b = some ((), ((s, q, ()), ()), ((b', ()), (z, ()), (), ()))
  | 0, b, _, hb, hz => ⟨b, hb, hz, rfl⟩
  | i + 1, b, hi, hb, hz => by
    have e1 : IntKind.wrap .i64 ((2 : Int) * ((i + 1 : Nat) : Int)) = ((2 * (i + 1) : Nat) : Int) := by rw [wrapS (by omega) (by omega)]; omega
    have e2 : IntKind.wrap .i64 (((2 * (i + 1) : Nat) : Int) + 1) = ((2 * (i + 1) + 1 : Nat) : Int) := next64 _ (by omega)
    have e3 : IntKind.wrap .i64 (((i + 1 : Nat) : Int) - 1) = (i : Int) := by rw [wrapS (by omega) (by omega)]; omega
    have i1 : inR ((2 * (i + 1) : Nat) : Int) 128 = true := inR_of (by omega) (by omega)
    have i2 : inR ((2 * (i + 1) + 1 : Nat) : Int) 128 = true := inR_of (by omega) (by omega)
    have i3 : inR ((i + 1 : Nat) : Int) 128 = true := inR_of (by omega) (by omega)
    have a1 := hz (2 * (i + 1)) (by omega) (by omega)
    have a2 := hz (2 * (i + 1) + 1) (by omega) (by omega)
    have h67 := f67_eq (Nd l (2 * (i + 1))) (Nd l (2 * (i + 1) + 1)) (by rw [Nd_size hv]; omega) (by rw [Nd_size hv]; omega)
    rw [← Nd_join l (i + 1) (by omega) hi] at h67
    obtain ⟨b', k1, k2, k3⟩ := joins18 hv s q z i (b.set (i + 1) (Nd l (i + 1))) (by omega) (by simp [hb]) (fun j hj hj2 => by
      rw [at_set (by omega)]
      split
      · rename_i h; subst h; rfl
      · exact hz j (by omega) hj2)
    refine ⟨b', k1, k2, ?_⟩
    rw [f37_l13_b18000]
    simp only [dec_t (show ((i + 1 : Nat) : Int) > 0 by omega), cond_true, e1, e2, i1, i2, i3, a1, a2, h67, Option.bind_some, e3, Int.toNat_natCast]
    exact k3

/-! ### The visit -/
theorem find_key (l : List Ent) (k : Int) (s1 s2 s3 : ByteArray) (K : List Int) (bm : List Bool) (t vs ps : List ByteArray) (hl : l.length ≤ 1000000) : ∀ (rest : List Ent) (n m : Nat), l.drop n = rest → n ≤ l.length → rest.length < m →
    (∃ (j : Nat) (e : Ent), l[j]? = some e ∧ e.2.1 = atK rest k ∧ f49_l2_b23010000 l l.length s1 s2 s3 k l K bm t vs ps m n = some (.inr (((j : Int), ()), ((s1, s2, ()), (s3, ()), (), ()), ((l, ()), (K, ()), (), (k, ()), (bm, ()), (), (), (), (t, ()), vs, ps, ())))) ∨
    (atK rest k = emp ∧ f49_l2_b23010000 l l.length s1 s2 s3 k l K bm t vs ps m n = some (.inl ((), ((s1, s2, ()), (s3, ()), (), ()), ((l, ()), (K, ()), (), (k, ()), (bm, ()), (), (), (), (t, ()), vs, ps, ()))))
  | [], n, 0, _, _, hm => by simp at hm
  | [], n, m + 1, hd, hn, _ => by
    have : l.length ≤ n := List.drop_eq_nil_iff.1 hd
    right
    rw [f49_l2_b23010000, dec_f (by omega)]
    exact ⟨rfl, rfl⟩
  | e :: rest, n, 0, _, _, hm => by simp at hm
  | e :: rest, n, m + 1, hd, hn, hm => by
    obtain ⟨hlt, hg, hd'⟩ := drop_get hd
    have he : at_ TE l (n : Int) = e := at_get (T := TE) hg
    have hi : inR (n : Int) l.length = true := inR_of (by omega) (by omega)
    simp only [List.length_cons] at hm
    by_cases hk : e.1 = k
    · left
      refine ⟨n, e, hg, by simp [atK, hk], ?_⟩
      rw [f49_l2_b23010000]
      simp only [dec_t (show (n : Int) < l.length by omega), cond_true, hi, he, dec_t hk]
    · have := find_key l k s1 s2 s3 K bm t vs ps hl rest (n + 1) m hd' hlt (by omega)
      have ea : atK (e :: rest) k = atK rest k := by simp [atK, hk]
      have eb : f49_l2_b23010000 l l.length s1 s2 s3 k l K bm t vs ps (m + 1) n = f49_l2_b23010000 l l.length s1 s2 s3 k l K bm t vs ps m ((n + 1 : Nat) : Int) := by
        rw [f49_l2_b23010000]
        simp only [dec_t (show (n : Int) < l.length by omega), cond_true, hi, he, dec_f hk, cond_false, next64 n (by omega)]
      rw [ea, eb]
      exact this

theorem visP {l : List Ent} (hv : Valid l) {K : List Int} (bm : List Bool) (hbm : ∀ i : Nat, 0 < i → i < 128 → at_ .bool bm (i : Int) = M K i) (t : List ByteArray) (ht : ∀ j : Nat, 0 < j → j < 128 → at_ .str t (j : Int) = Nd l j) :
    ∀ (h fuel i : Nat) (vs ps : List ByteArray), Nod h i → h < fuel → vs.length + 2 ^ h ≤ 100000 → ps.length + 2 ^ h ≤ 100000 →
      f69p fuel (i : Int) bm K l t vs ps = some ((Nd l i, ()), ((bm, ()), (), (), (), (K, ()), (), (l, ()), (t, ()), vs ++ (kv K h i).map (atK l), ps ++ pc K (Nd l) h i, ()))
  | h, 0, _, _, _, _, hf, _, _ => by omega
  | h, fuel + 1, i, vs, ps, n, hf, hvs, hps => by
    have hl := hv.len
    have hp := Nat.two_pow_pos h
    have h0 := n.pos
    have h128 := n.lt
    have hi : inR (i : Int) 128 = true := inR_of (by omega) (by omega)
    have hpos : 0 < i := n.pos
    rw [f69p]
    simp only [hi, cond_true, hbm i h0 h128, ht i h0 h128, List.length_singleton, dec_t (show ps.length + 1 ≤ appLim by unfold appLim; omega)]
    by_cases hm : M K i = true
    · rw [hm]
      simp only [Bool.not_true, cond_false]
      cases h with
      | zero =>
        have h64 := n.zero
        have e1 : IntKind.wrap .i64 ((i : Int) - 64) = (i : Int) - 64 := wrapS (by omega) (by omega)
        rw [dec_t (show (i : Int) ≥ 64 by omega)]
        simp only [cond_true, e1]
        have e2 : IntKind.wrap .i64 ((64 : Int) + ((i : Int) - 64)) = (i : Int) := by rw [wrapS (by omega) (by omega)]; omega
        have ek : kv K 0 i = [(i : Int) - 64] := by unfold kv; rw [if_pos hm]
        have ep : pc K (Nd l) 0 i = [] := by unfold pc; rw [if_pos hm]
        rw [ek, ep, len0]
        have hlim : vs.length + 1 ≤ appLim := by unfold appLim; omega
        rcases find_key l ((i : Int) - 64) emp emp emp K bm t vs ps (by omega) l 0 (l.length + 1) rfl (by omega) (by omega) with ⟨j, e, hj, hje, hr⟩ | ⟨hz, hr⟩
        · refine bindE hr ?_
          have hjl : j < l.length := by
            by_cases h : j < l.length
            · exact h
            · rw [List.getElem?_eq_none (by omega)] at hj; cases hj
          have hat : at_ TE l (j : Int) = e := at_get (T := TE) hj
          simp only [Sum.elim_inr, dec_t (show (j : Int) ≥ 0 by omega), cond_true, inR_of (show (0 : Int) ≤ j by omega) (show (j : Int) < l.length by omega), hat, List.length_singleton, dec_t hlim, e2, hi, ht i h0 h128, hje, List.map_cons, List.map_nil, List.append_nil]
        · refine bindE hr ?_
          simp only [Sum.elim_inl, List.length_singleton, dec_t hlim, cond_true, e2, hi, ht i h0 h128, List.map_cons, List.map_nil, List.append_nil, hz]
      | succ h =>
        have h64 := n.succ
        have hp2 : 2 ^ (h + 1) = 2 ^ h * 2 := rfl
        have hpp := Nat.two_pow_pos h
        rw [dec_f (show ¬ (i : Int) ≥ 64 by omega)]
        simp only [cond_false]
        have e1 : IntKind.wrap .i64 ((2 : Int) * (i : Int)) = ((2 * i : Nat) : Int) := by rw [wrapS (by omega) (by omega)]; omega
        have e2 : IntKind.wrap .i64 (((2 * i : Nat) : Int) + 1) = ((2 * i + 1 : Nat) : Int) := next64 _ (by omega)
        have l1 := kv_len K h (2 * i)
        have l2 := pc_len K (Nd l) h (2 * i)
        have a := visP hv bm hbm t ht h fuel (2 * i) vs ps n.left (by omega) (by omega) (by omega)
        have b := visP hv bm hbm t ht h fuel (2 * i + 1) (vs ++ (kv K h (2 * i)).map (atK l)) (ps ++ pc K (Nd l) h (2 * i)) n.right (by omega) (by rw [List.length_append, List.length_map]; omega) (by rw [List.length_append]; omega)
        have c := f67_eq (Nd l (2 * i)) (Nd l (2 * i + 1)) (by rw [Nd_size fun e he => (hv.val e he).2]; omega) (by rw [Nd_size fun e he => (hv.val e he).2]; omega)
        rw [← Nd_join l i h0 h64] at c
        have ek : kv K (h + 1) i = kv K h (2 * i) ++ kv K h (2 * i + 1) := by rw [kv, if_pos hm]
        have ep : pc K (Nd l) (h + 1) i = pc K (Nd l) h (2 * i) ++ pc K (Nd l) h (2 * i + 1) := by rw [pc, if_pos hm]
        rw [e1]
        refine bindE a ?_
        simp only [e2]
        refine bindE b ?_
        refine bindE c ?_
        rw [ek, ep, List.map_append, List.append_assoc, List.append_assoc]
    · have hm : M K i = false := by simpa using hm
      have ek : kv K h i = [] := by cases h <;> unfold kv <;> rw [hm] <;> rfl
      have ep : pc K (Nd l) h i = [Nd l i] := by cases h <;> unfold pc <;> rw [hm] <;> rfl
      rw [hm, ek, ep]
      simp only [Bool.not_false, cond_true, List.map_nil, List.append_nil]

abbrev Opening := List Int × (List ByteArray × (List ByteArray × Unit))

/-- The opening of a map at keys. -/
def opn (l : List Ent) (K : List Int) : Opening := (K, K.map (atK l), pc K (Nd l) 6 1, ())

set_option maxRecDepth 100000 in
theorem f18_eq {l : List Ent} (h : Valid l) {K : List Int} (hK : KeysOk K) : f18 l K = some (opn l K, 0, ()) := by
  have hv : ∀ e ∈ l, e.2.1.size ≤ 65536 := fun e he => (h.val e he).2
  have hKl := hK.len
  obtain ⟨b1, a1, a2, a3⟩ := zeros18 l K 0 l 64 0 (List.replicate 128 emp) rfl (by simp) (fun j hj => by omega)
  obtain ⟨b2, c1, c2, c3⟩ := leaves18 h K 0 l l 0 (l.length + 1) b1 rfl (by omega) (by omega) a1 (fun j hj => by rw [take0, a2 j hj]; unfold leafD; rw [if_pos rfl])
  obtain ⟨b3, d1, d2, d3⟩ := joins18 hv K 0 l 63 b2 (by omega) c1 (fun j hj hj2 => by
    have := c2 (j - 64) (by omega)
    have e : 64 + (j - 64) = j := by omega
    rw [e] at this
    rw [this, ← Nd_leaf l (j - 64) (by omega), e])
  obtain ⟨bm, m1, m2, m3⟩ := marks_25000 K hK 0 K l b3 K 0 (K.length + 1) (List.replicate 128 false) rfl (by omega) (by omega) (by simp)
  have hbm := marked_eq hK m2
  have vis := visP h bm hbm b3 (fun j h1 h2 => d2 j h1 h2) 6 8 1 [] [] nod_root (by omega) (by simp) (by simp)
  unfold f18
  refine bindE (f15_valid h) ?_
  simp only [Bool.not_true, cond_false]
  refine bindE (f40_eq K (by omega)) ?_
  rw [keysB_none.2 hK]
  simp only [Bool.not_true, cond_false]
  rw [show ((64 : Int) - 0).toNat + 1 = 64 + 1 from rfl]
  refine bindE (show f37_l3_b18000 l K 0 l (64 + 1) 0 (List.replicate 128 ⟨#[]⟩) = _ from a3) ?_
  simp only
  rw [len0]
  refine bindE c3 ?_
  simp only
  rw [show (63 : Int).toNat + 1 = 63 + 1 from rfl]
  refine bindE (show f37_l13_b18000 K 0 l (63 + 1) 63 b2 = _ from d3) ?_
  simp only
  refine bindE (show f45 K = some (K, ()) by unfold f45; rw [dec_t (by unfold appLim; omega)]; rfl) ?_
  rw [len0]
  refine bindE m3 ?_
  simp only
  refine bindE vis ?_
  unfold opn
  rw [kv_root hK]
  rfl

end Go.V.G
namespace Go.V.G

theorem next64b (n : Nat) (h : n + 1 ≤ 9223372036854775807) : IntKind.wrap .i64 ((n : Int) + 1) = ((n + 1 : Nat) : Int) := by rw [wrapS (by omega) (by omega)]; rfl

def mn (K : List Int) : Nat → Nat → Nat
  | 0, i => if M K i then 0 else 1
  | h + 1, i => if M K i then mn K h (2 * i) + mn K h (2 * i + 1) else 1

theorem pc_mn {α : Type} (K : List Int) (T : Nat → α) : ∀ h i, (pc K T h i).length = mn K h i
  | 0, i => by unfold pc mn; split <;> rfl
  | h + 1, i => by
    unfold pc mn; split
    · rw [List.length_append, pc_mn K T h, pc_mn K T h]
    · rfl
theorem mn_le (K : List Int) (h i : Nat) : mn K h i ≤ 2 ^ h := by rw [← pc_mn K (fun _ => ())]; exact pc_len K _ h i

/-- The digest of a part for which closed parts and values stand. -/
def sd (K : List Int) (V : Int → ByteArray) : Nat → Nat → List ByteArray → ByteArray
  | 0, i, ps => if M K i then leafD ((i : Int) - 64) (V ((i : Int) - 64)) else ps.headD zeroD
  | h + 1, i, ps => if M K i then joinD (sd K V h (2 * i) ps) (sd K V h (2 * i + 1) (ps.drop (mn K h (2 * i)))) else ps.headD zeroD

theorem headD_size {ps : List ByteArray} (hp : ∀ s ∈ ps, s.size = 32) : (ps.headD zeroD).size = 32 := by
  cases ps with
  | nil => exact zero_size
  | cons a r => exact hp a (by simp)

theorem sd_size {K : List Int} {V : Int → ByteArray} (hV : ∀ k, (V k).size ≤ 65536) : ∀ (h i : Nat) (ps : List ByteArray), (∀ s ∈ ps, s.size = 32) → (sd K V h i ps).size = 32
  | 0, i, ps, hp => by
    unfold sd; split
    · exact leafD_size _ _ (hV _)
    · exact headD_size hp
  | h + 1, i, ps, hp => by
    unfold sd; split
    · exact joinD_size _ _ (by rw [sd_size hV h _ _ hp]; omega) (by rw [sd_size hV h _ _ (fun s hs => hp s (List.mem_of_mem_drop hs))]; omega)
    · exact headD_size hp

theorem visS {K : List Int} {V : Int → ByteArray} (hV : ∀ k, (V k).size ≤ 65536) (bm : List Bool) (hbm : ∀ i : Nat, 0 < i → i < 128 → at_ .bool bm (i : Int) = M K i) :
    ∀ (h fuel i c : Nat) (ps rest : List ByteArray), Nod h i → h < fuel → c + 2 ^ h ≤ 100000 → (∀ s ∈ ps, s.size = 32) → ps.length ≤ 9223372036854775807 → rest.length + 2 ^ h ≤ 100000 →
      f69s fuel (i : Int) bm (c : Int) ps ((kv K h i).map V ++ rest) = some ((sd K V h i ps, ()), ((bm, ()), (), (), (), (((c + mn K h i : Nat) : Int), ()), (ps.drop (mn K h i), ()), (rest, ()), ()))
  | h, 0, _, _, _, _, _, hf, _, _, _, _ => by omega
  | h, fuel + 1, i, c, ps, rest, n, hf, hc, hps, hpl, hrl => by
    have hp := Nat.two_pow_pos h
    have h0 := n.pos
    have h128 := n.lt
    have hi : inR (i : Int) 128 = true := inR_of (by omega) (by omega)
    rw [f69s]
    simp only [hi, cond_true, hbm i h0 h128, next64 c (by omega)]
    by_cases hm : M K i = true
    · rw [hm]
      simp only [Bool.not_true, cond_false]
      cases h with
      | zero =>
        have h64 := n.zero
        obtain ⟨j, rfl⟩ : ∃ j, i = 64 + j := ⟨i - 64, by omega⟩
        have e0 : ((64 + j : Nat) : Int) - 64 = (j : Int) := by omega
        have e1 : IntKind.wrap .i64 (((64 + j : Nat) : Int) - 64) = (j : Int) := by rw [wrapS (by omega) (by omega)]; omega
        have ek : kv K 0 (64 + j) = [(j : Int)] := by unfold kv; rw [if_pos hm, e0]
        have em : mn K 0 (64 + j) = 0 := by unfold mn; rw [if_pos hm]
        have es : sd K V 0 (64 + j) ps = leafD j (V j) := by unfold sd; rw [if_pos hm, e0]
        rw [dec_t (show ((64 + j : Nat) : Int) ≥ 64 by omega), ek, em, es]
        simp only [cond_true, List.map_cons, List.map_nil, List.cons_append, List.nil_append, List.length_cons, e1]
        rw [inR_of (by omega) (by omega), show cutOk (rest.length + 1) (some (1 : Int)) none = true by unfold cutOk; simp; omega]
        simp only [cond_true]
        exact bindE (f66_eq j (by omega) (V j) (hV j)) rfl
      | succ h =>
        have h64 := n.succ
        have hp2 : 2 ^ (h + 1) = 2 ^ h * 2 := rfl
        have hpp := Nat.two_pow_pos h
        rw [dec_f (show ¬ (i : Int) ≥ 64 by omega)]
        simp only [cond_false]
        have e1 : IntKind.wrap .i64 ((2 : Int) * (i : Int)) = ((2 * i : Nat) : Int) := by rw [wrapS (by omega) (by omega)]; omega
        have e2 : IntKind.wrap .i64 (((2 * i : Nat) : Int) + 1) = ((2 * i + 1 : Nat) : Int) := next64 _ (by omega)
        have ek : kv K (h + 1) i = kv K h (2 * i) ++ kv K h (2 * i + 1) := by rw [kv, if_pos hm]
        have em : mn K (h + 1) i = mn K h (2 * i) + mn K h (2 * i + 1) := by rw [mn, if_pos hm]
        have es : sd K V (h + 1) i ps = joinD (sd K V h (2 * i) ps) (sd K V h (2 * i + 1) (ps.drop (mn K h (2 * i)))) := by rw [sd, if_pos hm]
        have l1 := kv_len K h (2 * i + 1)
        have l2 := mn_le K h (2 * i)
        have l3 := mn_le K h (2 * i + 1)
        have hps2 : ∀ s ∈ ps.drop (mn K h (2 * i)), s.size = 32 := fun s hs => hps s (List.mem_of_mem_drop hs)
        have a := visS hV bm hbm h fuel (2 * i) c ps ((kv K h (2 * i + 1)).map V ++ rest) n.left (by omega) (by omega) hps hpl (by rw [List.length_append, List.length_map]; omega)
        have b := visS hV bm hbm h fuel (2 * i + 1) (c + mn K h (2 * i)) (ps.drop (mn K h (2 * i))) rest n.right (by omega) (by omega) hps2 (by rw [List.length_drop]; omega) (by omega)
        have d := f67_eq (sd K V h (2 * i) ps) (sd K V h (2 * i + 1) (ps.drop (mn K h (2 * i)))) (by rw [sd_size hV h _ _ hps]; omega) (by rw [sd_size hV h _ _ hps2]; omega)
        rw [e1, ek, List.map_append, List.append_assoc, es, em]
        refine bindE a ?_
        simp only [e2]
        refine bindE b ?_
        refine bindE d ?_
        rw [List.drop_drop, Nat.add_assoc]
    · have hm : M K i = false := by simpa using hm
      have ek : kv K h i = [] := by cases h <;> unfold kv <;> rw [hm] <;> rfl
      have em : mn K h i = 1 := by cases h <;> unfold mn <;> rw [hm] <;> rfl
      have es : sd K V h i ps = ps.headD zeroD := by cases h <;> unfold sd <;> rw [hm] <;> rfl
      rw [hm, ek, em, es]
      simp only [Bool.not_false, cond_true, List.map_nil, List.nil_append]
      cases ps with
      | nil =>
        rw [dec_t (show (([] : List ByteArray).length : Int) = 0 from rfl), cond_true]
        exact bindE zero_eq.1 rfl
      | cons a r =>
        rw [dec_f (show ¬ ((a :: r).length : Int) = 0 by simp only [List.length_cons]; omega), cond_false, inR_of (by omega) (by simp only [List.length_cons]; omega), show cutOk (a :: r).length (some (1 : Int)) none = true by unfold cutOk; simp; omega]
        rfl

/-! ### Values at keys -/
def vF : List Int → List ByteArray → Int → ByteArray
  | k :: K, v :: vs, x => if k = x then v else vF K vs x
  | _, _, _ => emp

theorem vF_size : ∀ {K : List Int} {vs : List ByteArray}, (∀ v ∈ vs, v.size ≤ 65536) → ∀ k, (vF K vs k).size ≤ 65536
  | [], _, _, _ => by unfold vF; show (0 : Nat) ≤ _; omega
  | _ :: _, [], _, _ => by unfold vF; show (0 : Nat) ≤ _; omega
  | k :: K, v :: vs, h, x => by
    unfold vF; split
    · exact h v (by simp)
    · exact vF_size (fun v hv => h v (by simp [hv])) x

theorem vF_map : ∀ {K : List Int} {vs : List ByteArray}, K.Pairwise (· < ·) → vs.length = K.length → K.map (vF K vs) = vs
  | [], [], _, _ => rfl
  | [], _ :: _, _, h => by simp at h
  | _ :: _, [], _, h => by simp at h
  | k :: K, v :: vs, hs, h => by
    rw [List.pairwise_cons] at hs
    have e : K.map (vF (k :: K) (v :: vs)) = K.map (vF K vs) := List.map_congr_left fun x hx => by
      have := hs.1 x hx
      show (if k = x then v else vF K vs x) = _
      rw [if_neg (by omega)]
    rw [List.map_cons, e, vF_map hs.2 (by simpa using h)]
    show (if k = k then v else vF K vs k) :: vs = _
    rw [if_pos rfl]

theorem vF_of_map {K : List Int} (f : Int → ByteArray) : ∀ {k : Int}, k ∈ K → vF K (K.map f) k = f k := by
  induction K with
  | nil => intro k hk; cases hk
  | cons x K ih =>
    intro k hk
    show (if x = k then f x else vF K (K.map f) k) = _
    by_cases h : x = k
    · rw [if_pos h, h]
    · rw [if_neg h]
      rcases List.mem_cons.1 hk with hk | hk
      · exact absurd hk.symm h
      · exact ih hk

/-! ### Tests of lists of strings -/
theorem long_loop (l : List ByteArray) (hl : l.length ≤ 9223372036854775807) (k0 : Bool) (a : List ByteArray) (s : ByteArray) (b c : Bool) (g0 : List Int) (g1 g2 : List ByteArray) : ∀ (rest : List ByteArray) (n m : Nat), l.drop n = rest → n ≤ l.length → rest.length < m →
    (rest.all (fun s => decide (s.size ≤ 65536)) = true ∧ f88_l2_b27007000 l l.length k0 a s b c g0 g1 g2 m n = some (.inl ((), ((k0, ()), (a, s, b, c, ()), ()), ((g0, g1, g2, ()), ())))) ∨
    (rest.all (fun s => decide (s.size ≤ 65536)) = false ∧ ∃ j : Nat, f88_l2_b27007000 l l.length k0 a s b c g0 g1 g2 m n = some (.inr (((j : Int), ()), ((k0, ()), (a, s, b, c, ()), ()), ((g0, g1, g2, ()), ()))))
  | [], n, 0, _, _, hm => by simp at hm
  | [], n, m + 1, hd, hn, _ => by
    have : l.length ≤ n := List.drop_eq_nil_iff.1 hd
    left
    rw [f88_l2_b27007000, dec_f (by omega)]
    exact ⟨rfl, rfl⟩
  | e :: rest, n, 0, _, _, hm => by simp at hm
  | e :: rest, n, m + 1, hd, hn, hm => by
    obtain ⟨hlt, hg, hd'⟩ := drop_get hd
    have he : at_ .str l (n : Int) = e := at_get (T := .str) hg
    have hi : inR (n : Int) l.length = true := inR_of (by omega) (by omega)
    simp only [List.length_cons] at hm
    have ih := long_loop l hl k0 a s b c g0 g1 g2 rest (n + 1) m hd' hlt (by omega)
    have h73 : f73 e = some (decide ((e.size : Int) > 65536), ()) := rfl
    rw [f88_l2_b27007000]
    simp only [dec_t (show (n : Int) < l.length by omega), cond_true, hi, he, h73, Option.bind_some, next64b n (by omega), List.all_cons]
    by_cases h : e.size ≤ 65536
    · rw [dec_f (show ¬ (e.size : Int) > 65536 by omega), dec_t h]
      simp only [cond_false, Bool.true_and]
      exact ih
    · right
      rw [dec_t (show (e.size : Int) > 65536 by omega), dec_f h]
      exact ⟨rfl, n, rfl⟩

theorem odd_loop (l : List ByteArray) (hl : l.length ≤ 9223372036854775807) (k0 : Bool) (a : List ByteArray) (s : ByteArray) (b c : Bool) (g0 : List Int) (g1 g2 : List ByteArray) : ∀ (rest : List ByteArray) (n m : Nat), l.drop n = rest → n ≤ l.length → rest.length < m →
    (rest.all (fun s => decide (s.size = 32)) = true ∧ f88_l2_b33007000 l l.length k0 a s b c g0 g1 g2 m n = some (.inl ((), ((k0, ()), (a, s, b, c, ()), ()), ((g0, g1, g2, ()), ())))) ∨
    (rest.all (fun s => decide (s.size = 32)) = false ∧ ∃ j : Nat, f88_l2_b33007000 l l.length k0 a s b c g0 g1 g2 m n = some (.inr (((j : Int), ()), ((k0, ()), (a, s, b, c, ()), ()), ((g0, g1, g2, ()), ()))))
  | [], n, 0, _, _, hm => by simp at hm
  | [], n, m + 1, hd, hn, _ => by
    have : l.length ≤ n := List.drop_eq_nil_iff.1 hd
    left
    rw [f88_l2_b33007000, dec_f (by omega)]
    exact ⟨rfl, rfl⟩
  | e :: rest, n, 0, _, _, hm => by simp at hm
  | e :: rest, n, m + 1, hd, hn, hm => by
    obtain ⟨hlt, hg, hd'⟩ := drop_get hd
    have he : at_ .str l (n : Int) = e := at_get (T := .str) hg
    have hi : inR (n : Int) l.length = true := inR_of (by omega) (by omega)
    simp only [List.length_cons] at hm
    have ih := odd_loop l hl k0 a s b c g0 g1 g2 rest (n + 1) m hd' hlt (by omega)
    have h74 : f74 e = some (decide ((e.size : Int) ≠ 32), ()) := rfl
    rw [f88_l2_b33007000]
    simp only [dec_t (show (n : Int) < l.length by omega), cond_true, hi, he, h74, Option.bind_some, next64b n (by omega), List.all_cons]
    by_cases h : e.size = 32
    · rw [dec_f (show ¬ (e.size : Int) ≠ 32 by omega), dec_t h]
      simp only [cond_false, Bool.true_and]
      exact ih
    · right
      rw [dec_t (show (e.size : Int) ≠ 32 by omega), dec_f h]
      exact ⟨rfl, n, rfl⟩

/-! ### stands -/
def okV (vs : List ByteArray) : Bool := vs.all fun s => decide (s.size ≤ 65536)
def okP (ps : List ByteArray) : Bool := ps.all fun s => decide (s.size = 32)
theorem okV_iff {vs : List ByteArray} : okV vs = true ↔ ∀ s ∈ vs, s.size ≤ 65536 := by unfold okV; simp
theorem okP_iff {vs : List ByteArray} : okP vs = true ↔ ∀ s ∈ vs, s.size = 32 := by unfold okP; simp

/-- What an opening keeps to, but for the number of its digests. -/
def half_formed (K : List Int) (vs ps : List ByteArray) : Bool := keysB none K && decide (vs.length = K.length) && okV vs && okP ps

theorem last_part {K : List Int} (hK : KeysOk K) {vs : List ByteArray} (hlen : vs.length = K.length) (hV : ∀ v ∈ vs, v.size ≤ 65536) (vs0 ps : List ByteArray) (hps : ∀ s ∈ ps, s.size = 32) (hpl : ps.length ≤ 9223372036854775807) (s : ByteArray) (b : Bool) :
    ∃ b' : List Bool, f46_l3_b42000 (((K.length : Int) - (0 : Int)).toNat + 1) K (K.length : Int) (0 : Int) s b (List.replicate 128 false) K vs0 ps (0 : Int) ps vs = some ((), ((s, b, ()), ()), ((), (), (b', ()), (K, vs0, ps, ()), (0, ()), (ps, ()), (vs, ()), ())) ∧
      ∃ c p, f69s_go (1 : Int) b' 0 ps vs = some ((sd K (vF K vs) 6 1 ps, ()), ((b', ()), (), (), (), (((mn K 6 1 : Nat) : Int), ()), (c, ()), (p, ()), ())) := by
  have hKl := hK.len
  obtain ⟨bm, m1, m2, m3⟩ := marks_42000 K hK s b K vs0 ps 0 ps vs K 0 (K.length + 1) (List.replicate 128 false) rfl (by omega) (by omega) (by simp)
  have hbm := marked_eq hK m2
  have vis := visS (V := vF K vs) (vF_size (K := K) hV) bm hbm 6 8 1 0 ps [] nod_root (by omega) (by omega) hps hpl (by simp)
  rw [kv_root hK, vF_map hK.asc hlen, List.append_nil] at vis
  refine ⟨bm, by rw [len0]; exact m3, ps.drop (mn K 6 1), [], ?_⟩
  rw [Nat.zero_add] at vis
  exact vis

theorem f54_eq (K : List Int) (vs0 ps vs : List ByteArray) (hl : K.length ≤ 1000000) (hvl : vs.length ≤ 9223372036854775807) (hpl : ps.length ≤ 9223372036854775807) :
    f54 (K, vs0, ps, ()) vs = some (if half_formed K vs ps then (sd K (vF K vs) 6 1 ps, decide (mn K 6 1 = ps.length), ()) else (emp, false, ())) := by
  unfold f54
  simp only
  refine bindE (f40_eq K hl) ?_
  unfold half_formed
  by_cases hk : keysB none K = true
  · have hK := keysB_none.1 hk
    rw [hk]
    simp only [Bool.not_true, cond_false, Bool.true_and]
    by_cases hlen : vs.length = K.length
    · rw [dec_f (show ¬ (vs.length : Int) ≠ (K.length : Int) by omega), dec_t hlen]
      simp only [cond_false, Bool.true_and]
      rw [len0]
      rcases long_loop vs hvl false vs emp false false K vs0 ps vs 0 (vs.length + 1) rfl (by omega) (by omega) with ⟨h1, h2⟩ | ⟨h1, j, h2⟩
      · refine bindE h2 ?_
        have hV := okV_iff.1 h1
        simp only [Sum.elim_inl, cond_false]
        rw [len0]
        rcases odd_loop ps hpl false vs emp false false K vs0 ps ps 0 (ps.length + 1) rfl (by omega) (by omega) with ⟨q1, q2⟩ | ⟨q1, j, q2⟩
        · refine bindE q2 ?_
          obtain ⟨b', r1, c, p, r2⟩ := last_part hK hlen hV vs0 ps (okP_iff.1 q1) hpl emp false
          simp only [Sum.elim_inl, cond_false]
          refine bindE r1 ?_
          refine bindE r2 ?_
          have : (okV vs && okP ps) = true := by rw [show okV vs = true from h1, show okP ps = true from q1]; rfl
          rw [if_pos this]
          have : decide (((mn K 6 1 : Nat) : Int) = (ps.length : Int)) = decide (mn K 6 1 = ps.length) := decide_eq_decide.2 (by omega)
          simp only [this]
        · refine bindE q2 ?_
          have : ¬ (okV vs && okP ps) = true := by rw [show okP ps = false from q1]; simp
          rw [if_neg this]
          simp only [Sum.elim_inr, cond_false, dec_t (show (j : Int) ≥ 0 by omega), cond_true]
          rfl
      · refine bindE h2 ?_
        have : ¬ (okV vs && okP ps) = true := by rw [show okV vs = false from h1]; simp
        rw [if_neg this]
        simp only [Sum.elim_inr, cond_false, dec_t (show (j : Int) ≥ 0 by omega), cond_true]
        rfl
    · rw [dec_t (show (vs.length : Int) ≠ (K.length : Int) by omega), dec_f hlen]
      rfl
  · have hk : keysB none K = false := by simpa using hk
    rw [hk]
    rfl

/-! ### Completeness -/
theorem D_congr {l m : List Ent} : ∀ (h : Nat) (lo : Int), (∀ k, lo ≤ k → k < lo + 2 ^ h → atK l k = atK m k) → D l h lo = D m h lo
  | 0, lo, hk => by unfold D; rw [hk lo (by omega) (by simp; omega)]
  | h + 1, lo, hk => by
    have p : (2 : Int) ^ (h + 1) = 2 ^ h * 2 := rfl
    have hp : 0 < (2 : Int) ^ h := Int.pow_pos (by omega)
    unfold D
    rw [D_congr h lo (fun k h1 h2 => hk k h1 (by omega)), D_congr h _ (fun k h1 h2 => hk k (by omega) (by omega))]

theorem sd_pc {K : List Int} {V : Int → ByteArray} {l m : List Ent} (hm : ∀ k ∈ K, V k = atK m k) (ho : ∀ k, k ∉ K → atK l k = atK m k) :
    ∀ (h i : Nat) (rest : List ByteArray), Nod h i → sd K V h i (pc K (Nd l) h i ++ rest) = Nd m i := by
  have closed : ∀ i : Nat, M K i = false → Nd l i = Nd m i := by
    intro i hi
    unfold Nd
    refine D_congr _ _ fun k h1 h2 => ho k fun hk => ?_
    have : M K i = true := List.any_eq_true.2 ⟨k, hk, by unfold inW low; rw [dec_t h1, dec_t h2]; rfl⟩
    rw [hi] at this; cases this
  intro h
  induction h with
  | zero =>
    intro i rest n
    unfold sd pc
    by_cases hi : M K i = true
    · rw [if_pos hi]
      obtain ⟨k, hk, hw⟩ := List.any_eq_true.1 hi
      unfold inW at hw
      rw [← n.hh, low_leaf n] at hw
      simp at hw
      have e : (i : Int) - 64 = k := by omega
      have h64 := n.zero
      have h128 := n.lt
      rw [e, hm k hk]
      have := Nd_leaf m (i - 64) (by omega)
      rw [show 64 + (i - 64) = i by omega, show ((i - 64 : Nat) : Int) = k by omega] at this
      exact this.symm
    · have hi : M K i = false := by simpa using hi
      rw [hi]
      exact closed i hi
  | succ h ih =>
    intro i rest n
    unfold sd pc
    by_cases hi : M K i = true
    · rw [if_pos hi, if_pos hi]
      rw [List.append_assoc, ih (2 * i) _ n.left, List.drop_left' (pc_mn K (Nd l) h (2 * i)), ih (2 * i + 1) _ n.right]
      exact (Nd_join m i n.pos n.succ).symm
    · have hi : M K i = false := by simpa using hi
      rw [hi]
      exact closed i hi

theorem Nd_one (l : List Ent) : Nd l 1 = rootD l := by
  unfold Nd rootD
  rw [show hgt 1 = 6 by kernel_rfl]
  rfl

theorem pc_size {K : List Int} {l : List Ent} (hv : ∀ e ∈ l, e.2.1.size ≤ 65536) : ∀ (h i : Nat), ∀ s ∈ pc K (Nd l) h i, s.size = 32
  | 0, i, s, hs => by
    unfold pc at hs; split at hs
    · cases hs
    · rw [List.mem_singleton.1 hs]; exact Nd_size hv _
  | h + 1, i, s, hs => by
    unfold pc at hs; split at hs
    · rcases List.mem_append.1 hs with hs | hs
      · exact pc_size hv h _ s hs
      · exact pc_size hv h _ s hs
    · rw [List.mem_singleton.1 hs]; exact Nd_size hv _

/-- What an opening of a map stands for, with the values of another map at its keys. -/
theorem stands_opn {l m : List Ent} (hl : Valid l) {K : List Int} (hK : KeysOk K) (hm : Valid m) (ho : ∀ k, k ∉ K → atK l k = atK m k) :
    f54 (opn l K) (K.map (atK m)) = some (rootD m, true, ()) := by
  have hKl := hK.len
  have hlv : ∀ e ∈ l, e.2.1.size ≤ 65536 := fun e he => (hl.val e he).2
  have hmv : ∀ e ∈ m, e.2.1.size ≤ 65536 := fun e he => (hm.val e he).2
  have hp := pc_len K (Nd l) 6 1
  have hp6 : 2 ^ 6 = 64 := rfl
  unfold opn
  rw [f54_eq K _ _ _ (by omega) (by rw [List.length_map]; omega) (by omega)]
  have hf : half_formed K (K.map (atK m)) (pc K (Nd l) 6 1) = true := by
    unfold half_formed
    rw [keysB_none.2 hK, dec_t (List.length_map ..), okV_iff.2 (fun s hs => by obtain ⟨k, _, rfl⟩ := List.mem_map.1 hs; exact atK_size hmv k), okP_iff.2 (pc_size hlv 6 1)]
    rfl
  rw [if_pos hf]
  have e := sd_pc (V := vF K (K.map (atK m))) (l := l) (m := m) (fun k hk => vF_of_map (atK m) hk) ho 6 1 [] nod_root
  rw [List.append_nil, Nd_one] at e
  rw [e, dec_t (pc_mn K (Nd l) 6 1).symm]

end Go.V.G
namespace Go.V.G

/-! ### Read -/
def prs : List Int → List ByteArray → List Ent
  | k :: K, v :: vs => if v = emp then prs K vs else (k, v, ()) :: prs K vs
  | _, _ => []
def abs_ : List Int → List ByteArray → List Int
  | k :: K, v :: vs => if v = emp then k :: abs_ K vs else abs_ K vs
  | _, _ => []

theorem read_loop (K : List Int) (vs ps : List ByteArray) (hlen : vs.length = K.length) (hl : K.length ≤ 100000) : ∀ (rK : List Int) (rv : List ByteArray) (n m : Nat) (a : List Ent) (b : List Int), K.drop n = rK → vs.drop n = rv → n ≤ K.length → rK.length < m → a.length ≤ n → b.length ≤ n →
    f23_l7 K K.length K vs ps m n a b = some ((), (), (a ++ prs rK rv, b ++ abs_ rK rv, ()))
  | [], rv, n, 0, _, _, _, _, _, hm, _, _ => by simp at hm
  | [], rv, n, m + 1, a, b, hd, hd2, hn, _, _, _ => by
    have : K.length ≤ n := List.drop_eq_nil_iff.1 hd
    rw [f23_l7, dec_f (by omega)]
    simp [prs, abs_]
    rfl
  | k :: rK, rv, n, 0, _, _, _, _, _, hm, _, _ => by simp at hm
  | k :: rK, rv, n, m + 1, a, b, hd, hd2, hn, hm, ha, hb => by
    obtain ⟨hlt, hg, hd'⟩ := drop_get hd
    have hk : at_ (.int .i64) K (n : Int) = k := at_get (T := .int .i64) hg
    have hi : inR (n : Int) K.length = true := inR_of (by omega) (by omega)
    simp only [List.length_cons] at hm
    cases rv with
    | nil => have := List.drop_eq_nil_iff.1 hd2; omega
    | cons v rv =>
      obtain ⟨hlt2, hg2, hd2'⟩ := drop_get hd2
      have hv : at_ .str vs (n : Int) = v := at_get (T := .str) hg2
      have hi2 : inR (n : Int) vs.length = true := inR_of (by omega) (by omega)
      rw [f23_l7]
      simp only [dec_t (show (n : Int) < K.length by omega), cond_true, hi, hi2, hk, hv, List.length_singleton, dec_t (show a.length + 1 ≤ appLim by unfold appLim; omega), dec_t (show b.length + 1 ≤ appLim by unfold appLim; omega), next64 n (by omega)]
      by_cases h : v = emp
      · rw [dec_t (show v = (⟨#[]⟩ : ByteArray) from h), cond_true]
        rw [read_loop K vs ps hlen hl rK rv (n + 1) m a (b ++ [k]) hd' hd2' (by omega) (by omega) (by omega) (by simp; omega)]
        simp [prs, abs_, h]
        rfl
      · rw [dec_f (show ¬ v = (⟨#[]⟩ : ByteArray) from h), cond_false]
        rw [read_loop K vs ps hlen hl rK rv (n + 1) m (a ++ [(k, v, ())]) b hd' hd2' (by omega) (by omega) (by simp; omega) (by omega)]
        simp [prs, abs_, h]
        rfl

/-- The root for which an opening stands, if it is formed. -/
def stOf (K : List Int) (vs ps : List ByteArray) : Option ByteArray :=
  if half_formed K vs ps && decide (mn K 6 1 = ps.length) then some (sd K (vF K vs) 6 1 ps) else none

theorem f23_eq (root : ByteArray) (K : List Int) (vs ps : List ByteArray) (hl : K.length ≤ 100000) (hvl : vs.length ≤ 9223372036854775807) (hpl : ps.length ≤ 9223372036854775807) :
    f23 root (K, vs, ps, ()) = some (if stOf K vs ps = some root then (prs K vs, abs_ K vs, true, ()) else ([], [], false, ())) := by
  unfold f23
  simp only
  refine bindE (f54_eq K vs ps vs (by omega) (by omega) (by omega)) ?_
  unfold stOf
  by_cases h1 : half_formed K vs ps = true
  · rw [if_pos h1, h1]
    by_cases h2 : mn K 6 1 = ps.length
    · rw [dec_t h2]
      simp only [Bool.not_true, cond_false, Bool.and_self, if_true]
      by_cases h3 : sd K (vF K vs) 6 1 ps = root
      · rw [dec_t h3, if_pos (congrArg some h3)]
        simp only [Bool.not_true, cond_false]
        have hlen : vs.length = K.length := by
          unfold half_formed at h1
          simp only [Bool.and_eq_true, decide_eq_true_eq] at h1
          exact h1.1.1.2
        rw [len0]
        exact bindE (read_loop K vs ps hlen hl K vs 0 (K.length + 1) [] [] rfl rfl (by omega) (by omega) (by simp) (by simp)) rfl
      · rw [dec_f h3, if_neg (fun h => h3 (Option.some.inj h))]
        rfl
    · rw [dec_f h2]
      rfl
  · rw [if_neg h1]
    have h1 : half_formed K vs ps = false := by simpa using h1
    rw [h1]
    rfl

/-! ### The place of a key -/
theorem mid (i j n : Nat) (hij : i < j) (hj : j ≤ n) (hn : n ≤ 1000000) : IntKind.wrap .i64 (shrV .u64 (IntKind.wrap .u64 (IntKind.wrap .i64 ((i : Int) + (j : Int)))) 1) = (((i + j) / 2 : Nat) : Int) := by
  have e1 : IntKind.wrap .i64 ((i : Int) + (j : Int)) = ((i + j : Nat) : Int) := by rw [wrapS (by omega) (by omega)]; omega
  have e2 : IntKind.wrap .u64 ((i + j : Nat) : Int) = ((i + j : Nat) : Int) := by
    have : IntKind.wrap .u64 ((i + j : Nat) : Int) = ((i + j : Nat) : Int) % 18446744073709551616 := rfl
    rw [this]; omega
  have e3 : shrV .u64 ((i + j : Nat) : Int) 1 = (((i + j) / 2 : Nat) : Int) := by
    unfold shrV
    have : min (1 : Int).toNat (IntKind.bits .u64) = 1 := by kernel_rfl
    rw [this, Int.fdiv_eq_ediv_of_nonneg _ (by decide)]
    omega
  rw [e1, e2, e3, wrapS (by omega) (by omega)]

theorem f79_eq (a b : Int) : f79 a b = some (decide (a < b), ()) := by
  unfold f79
  have : f89 a = some (false, ()) := by unfold f89; simp
  refine bindE this ?_
  rfl

theorem search (K : List Int) (x : Int) (hl : K.length ≤ 1000000) (hs : K.Pairwise (· < ·)) : ∀ (fuel i j : Nat), i ≤ j → j ≤ K.length → j - i < fuel → (∀ n, n < i → ∀ k, K[n]? = some k → k < x) → (∀ n, j ≤ n → ∀ k, K[n]? = some k → x ≤ k) →
    ∃ r : Nat, r ≤ K.length ∧ (∀ n, n < r → ∀ k, K[n]? = some k → k < x) ∧ (∀ n, r ≤ n → ∀ k, K[n]? = some k → x ≤ k) ∧ f58_l3 K x K.length fuel i j = some ((K, x, (K.length : Int), (r : Int), ()), (), ())
  | 0, i, j, _, _, hf, _, _ => by omega
  | fuel + 1, i, j, hij, hj, hf, h1, h2 => by
    by_cases h : i < j
    · have e := mid i j K.length h hj hl
      have hm1 : i ≤ (i + j) / 2 := by omega
      have hm2 : (i + j) / 2 < j := by omega
      have hlt : (i + j) / 2 < K.length := by omega
      obtain ⟨k, hk⟩ : ∃ k, K[(i + j) / 2]? = some k := ⟨K[(i + j) / 2], List.getElem?_eq_getElem hlt⟩
      have hat : at_ (.int .i64) K (((i + j) / 2 : Nat) : Int) = k := at_get (T := .int .i64) hk
      have mono : ∀ (n m : Nat) (a b : Int), K[n]? = some a → K[m]? = some b → n < m → a < b := by
        intro n m a b ha hb hnm
        have hm : m < K.length := by
          by_cases hh : m < K.length
          · exact hh
          · rw [List.getElem?_eq_none (by omega)] at hb; cases hb
        have := List.pairwise_iff_getElem.1 hs n m (by omega) hm hnm
        rw [List.getElem?_eq_getElem (by omega)] at ha
        rw [List.getElem?_eq_getElem hm] at hb
        rw [Option.some.inj ha, Option.some.inj hb] at this
        exact this
      rw [f58_l3]
      simp only [dec_t (show (i : Int) < (j : Int) by omega), cond_true, e, inR_of (show (0 : Int) ≤ (((i + j) / 2 : Nat) : Int) by omega) (show (((i + j) / 2 : Nat) : Int) < K.length by omega), hat, f79_eq, Option.bind_some, next64 ((i + j) / 2) (by omega)]
      by_cases hc : k < x
      · rw [dec_t hc, cond_true]
        refine search K x hl hs fuel ((i + j) / 2 + 1) j (by omega) hj (by omega) (fun n hn a ha => ?_) h2
        by_cases hh : n = (i + j) / 2
        · subst hh; rw [hk] at ha; cases ha; exact hc
        · have := mono n _ a k ha hk (by omega); omega
      · rw [dec_f hc, cond_false]
        refine search K x hl hs fuel i ((i + j) / 2) (by omega) (by omega) (by omega) h1 (fun n hn a ha => ?_)
        by_cases hh : n = (i + j) / 2
        · subst hh; rw [hk] at ha; cases ha; omega
        · have := mono _ n k a hk ha (by omega); omega
    · have : i = j := by omega
      subst this
      refine ⟨i, hj, h1, h2, ?_⟩
      rw [f58_l3, dec_f (by omega)]
      rfl

theorem f58_eq (K : List Int) (x : Int) (hl : K.length ≤ 1000000) (hs : K.Pairwise (· < ·)) : ∃ r : Nat, f58 K x = some ((r : Int), decide (x ∈ K), ()) ∧ (x ∈ K → K[r]? = some x) := by
  obtain ⟨r, h1, h2, h3, h4⟩ := search K x hl hs (K.length + 1) 0 K.length (by omega) (by omega) (by omega) (fun n hn => by omega) (fun n hn k hk => by rw [List.getElem?_eq_none hn] at hk; cases hk)
  refine ⟨r, ?_, ?_⟩
  · unfold f58
    rw [len0]
    refine bindE h4 ?_
    simp only
    by_cases hr : r < K.length
    · obtain ⟨k, hk⟩ : ∃ k, K[r]? = some k := ⟨K[r], List.getElem?_eq_getElem hr⟩
      have hat : at_ (.int .i64) K (r : Int) = k := at_get (T := .int .i64) hk
      rw [dec_t (show (r : Int) < K.length by omega), inR_of (by omega) (show (r : Int) < K.length by omega), hat]
      simp only [cond_true]
      by_cases hx : k = x
      · rw [dec_t hx, dec_t (show x ∈ K from hx ▸ List.mem_of_getElem? hk)]
        rfl
      · have : x ∉ K := by
          intro hxK
          obtain ⟨n, hn⟩ := List.mem_iff_getElem?.1 hxK
          by_cases hnr : n < r
          · have := h2 n hnr x hn; omega
          · have h5 := h3 r (by omega) k hk
            by_cases hnn : n = r
            · subst hnn; rw [hk] at hn; cases hn; exact hx rfl
            · have hnl : n < K.length := by
                by_cases hh : n < K.length
                · exact hh
                · rw [List.getElem?_eq_none (by omega)] at hn; cases hn
              have := List.pairwise_iff_getElem.1 hs r n hr hnl (by omega)
              rw [List.getElem?_eq_getElem hr] at hk
              rw [List.getElem?_eq_getElem hnl] at hn
              rw [Option.some.inj hk, Option.some.inj hn] at this
              omega
        rw [dec_f hx, dec_f this, cond_false]
        have e80 : f80 k = some (false, ()) := by unfold f80; simp
        refine bindE e80 ?_
        rfl
    · rw [dec_f (show ¬ (r : Int) < K.length by omega), cond_false]
      have : x ∉ K := by
        intro hxK
        obtain ⟨n, hn⟩ := List.mem_iff_getElem?.1 hxK
        have hnl : n < K.length := by
          by_cases hh : n < K.length
          · exact hh
          · rw [List.getElem?_eq_none (by omega)] at hn; cases hn
        have := h2 n (by omega) x hn
        omega
      rw [dec_f this]
  · intro hxK
    obtain ⟨n, hn⟩ := List.mem_iff_getElem?.1 hxK
    by_cases hnr : n < r
    · have := h2 n hnr x hn; omega
    · by_cases hnn : n = r
      · subst hnn; exact hn
      · have hnl : n < K.length := by
          by_cases hh : n < K.length
          · exact hh
          · rw [List.getElem?_eq_none (by omega)] at hn; cases hn
        have hr : r < K.length := by omega
        have hk := List.getElem?_eq_getElem hr
        have h5 := h3 r (by omega) K[r] hk
        have := List.pairwise_iff_getElem.1 hs r n hr hnl (by omega)
        rw [List.getElem?_eq_getElem hnl] at hn
        rw [Option.some.inj hn] at this
        omega

/-! ### Update -/
def updV (V : Int → ByteArray) : List Ent → Int → ByteArray
  | [] => V
  | c :: cs => updV (fun k => if k = c.1 then c.2.1 else V k) cs

theorem set_map {K : List Int} (hs : K.Pairwise (· < ·)) {x : Int} {r : Nat} (hr : K[r]? = some x) (V : Int → ByteArray) (v : ByteArray) : (K.map V).set r v = K.map (fun k => if k = x then v else V k) := by
  apply List.ext_getElem?
  intro n
  rw [List.getElem?_set, List.getElem?_map, List.getElem?_map, List.length_map]
  have hrl : r < K.length := by
    by_cases hh : r < K.length
    · exact hh
    · rw [List.getElem?_eq_none (by omega)] at hr; cases hr
  by_cases h : r = n
  · subst h
    rw [if_pos rfl, if_pos hrl, hr]
    simp
  · rw [if_neg h]
    by_cases hn : n < K.length
    · have hne : K[n] ≠ x := by
        rw [List.getElem?_eq_getElem hrl] at hr
        rw [← Option.some.inj hr]
        rcases Nat.lt_or_gt_of_ne h with h | h
        · have := List.pairwise_iff_getElem.1 hs r n hrl hn h; omega
        · have := List.pairwise_iff_getElem.1 hs n r hn hrl h; omega
      rw [List.getElem?_eq_getElem hn]
      simp [hne]
    · rw [List.getElem?_eq_none (by omega)]; rfl

theorem upd_loop {K : List Int} (hK : KeysOk K) (vs0 ps : List ByteArray) (cs : List Ent) (hcl : cs.length ≤ 1000000) : ∀ (rest : List Ent) (n m : Nat) (V : Int → ByteArray), cs.drop n = rest → n ≤ cs.length → rest.length < m →
    ((∀ c ∈ rest, c.1 ∈ K) ∧ f27_l6 cs cs.length K vs0 ps m n (K.map V) = some (.inl ((), (), ((K, vs0, ps, ()), K.map (updV V rest), ())))) ∨
    (¬ (∀ c ∈ rest, c.1 ∈ K) ∧ f27_l6 cs cs.length K vs0 ps m n (K.map V) = some (.inr ((emp, false, ()), (), ())))
  | [], n, 0, _, _, _, hm => by simp at hm
  | [], n, m + 1, V, hd, hn, _ => by
    have : cs.length ≤ n := List.drop_eq_nil_iff.1 hd
    left
    rw [f27_l6, dec_f (by omega)]
    exact ⟨fun c hc => (nomatch hc), rfl⟩
  | c :: rest, n, 0, _, _, _, hm => by simp at hm
  | c :: rest, n, m + 1, V, hd, hn, hm => by
    obtain ⟨hlt, hg, hd'⟩ := drop_get hd
    have hKl := hK.len
    have he : at_ TE cs (n : Int) = c := at_get (T := TE) hg
    have hi : inR (n : Int) cs.length = true := inR_of (by omega) (by omega)
    simp only [List.length_cons] at hm
    obtain ⟨r, h58, hr⟩ := f58_eq K c.1 (by omega) hK.asc
    have ih := upd_loop hK vs0 ps cs hcl rest (n + 1) m (fun k => if k = c.1 then c.2.1 else V k) hd' hlt (by omega)
    rw [f27_l6]
    simp only [dec_t (show (n : Int) < cs.length by omega), cond_true, hi, he, h58, Option.bind_some, next64 n (by omega), List.length_map, Int.toNat_natCast]
    by_cases hc : c.1 ∈ K
    · have hg2 := hr hc
      have hrl : r < K.length := by
        by_cases hh : r < K.length
        · exact hh
        · rw [List.getElem?_eq_none (by omega)] at hg2; cases hg2
      rw [dec_t hc, set_map hK.asc hg2, inR_of (by omega) (by omega)]
      simp only [Bool.not_true, cond_false, cond_true]
      rcases ih with ⟨q1, q2⟩ | ⟨q1, q2⟩
      · left
        refine ⟨fun x hx => ?_, q2⟩
        rcases List.mem_cons.1 hx with rfl | hx
        · exact hc
        · exact q1 x hx
      · right
        exact ⟨fun h => q1 fun x hx => h x (by simp [hx]), q2⟩
    · right
      rw [dec_f hc]
      exact ⟨fun h => hc (h c (by simp)), rfl⟩

theorem keysOf31 (l l2 : List Ent) (s : ByteArray) (b c : Bool) (g0 : List Int) (g1 g2 : List ByteArray) (hl : l.length ≤ 1000000) : ∀ (rest : List Ent) (n m : Nat) (acc : List Int), l.drop n = rest → n ≤ l.length → rest.length < m → acc.length + rest.length ≤ 1000000 →
    f41_l3_b31000 l l.length l2 s b c g0 g1 g2 m n acc = some ((), ((l2, s, b, c, ()), ()), (acc ++ rest.map (·.1), (g0, g1, g2, ()), ()))
  | [], n, 0, _, _, _, hm, _ => by simp at hm
  | [], n, m + 1, acc, hd, hn, _, _ => by
    have : l.length ≤ n := List.drop_eq_nil_iff.1 hd
    rw [f41_l3_b31000, dec_f (by omega), List.map_nil, List.append_nil]
    rfl
  | e :: rest, n, 0, _, _, _, hm, _ => by simp at hm
  | e :: rest, n, m + 1, acc, hd, hn, hm, ha => by
    obtain ⟨hlt, hg, hd'⟩ := drop_get hd
    have he : at_ TE l (n : Int) = e := at_get (T := TE) hg
    have hi : inR (n : Int) l.length = true := inR_of (by omega) (by omega)
    simp only [List.length_cons] at hm ha
    have h42 : f42 e = some (e.1, ()) := rfl
    rw [f41_l3_b31000]
    simp only [dec_t (show (n : Int) < l.length by omega), cond_true, hi, he, h42, Option.bind_some, List.length_singleton, dec_t (show acc.length + 1 ≤ appLim by unfold appLim; omega), next64 n (by omega)]
    rw [keysOf31 l l2 s b c g0 g1 g2 hl rest (n + 1) m (acc ++ [e.1]) hd' hlt (by omega) (by simp; omega)]
    rw [List.append_assoc]
    rfl

/-- Whether changes may be made. -/
def chOk (K : List Int) (cs : List Ent) : Bool := keysB none (cs.map (·.1)) && cs.all fun c => decide (c.1 ∈ K)

theorem f27_eq (root : ByteArray) (K : List Int) (vs ps : List ByteArray) (cs : List Ent) (hl : K.length ≤ 100000) (hvl : vs.length ≤ 100000) (hpl : ps.length ≤ 100000) (hcl : cs.length ≤ 100000) :
    f27 root (K, vs, ps, ()) cs = some (if stOf K vs ps = some root ∧ chOk K cs = true then
      (if half_formed K (K.map (updV (vF K vs) cs)) ps then (sd K (vF K (K.map (updV (vF K vs) cs))) 6 1 ps, decide (mn K 6 1 = ps.length), ()) else (emp, false, ())) else (emp, false, ())) := by
  unfold f27
  simp only
  refine bindE (f54_eq K vs ps vs (by omega) (by omega) (by omega)) ?_
  unfold stOf
  by_cases h1 : half_formed K vs ps = true
  · rw [if_pos h1, h1]
    by_cases h2 : mn K 6 1 = ps.length
    · rw [dec_t h2]
      simp only [Bool.not_true, cond_false, Bool.and_self, if_true]
      by_cases h3 : sd K (vF K vs) 6 1 ps = root
      · rw [dec_t h3]
        simp only [Bool.not_true, cond_false]
        have hf := h1
        unfold half_formed at hf
        simp only [Bool.and_eq_true, decide_eq_true_eq] at hf
        have hlen : vs.length = K.length := hf.1.1.2
        have hK := keysB_none.1 hf.1.1.1
        have hKl := hK.len
        rw [len0]
        refine bindE (keysOf31 cs cs emp false false K vs ps (by omega) cs 0 (cs.length + 1) [] rfl (by omega) (by omega) (by simp; omega)) ?_
        simp only [cond_false, List.nil_append]
        refine bindE (f40_eq (cs.map (·.1)) (by simp; omega)) ?_
        by_cases h4 : keysB none (cs.map (·.1)) = true
        · rw [h4]
          simp only [Bool.not_true, cond_false]
          have e57 : f57 vs = some vs := by unfold f57; rw [dec_t (by unfold appLim; omega)]; rfl
          refine bindE e57 ?_
          have hm := vF_map hK.asc hlen
          have hup := upd_loop hK vs ps cs (by omega) cs 0 (cs.length + 1) (vF K vs) rfl (by omega) (by omega)
          rw [hm] at hup
          rw [len0]
          rcases hup with ⟨q1, q2⟩ | ⟨q1, q2⟩
          · refine bindE q2 ?_
            have : chOk K cs = true := by
              unfold chOk
              rw [h4, Bool.true_and, List.all_eq_true]
              exact fun c hc => decide_eq_true (q1 c hc)
            rw [if_pos ⟨congrArg some h3, this⟩]
            simp only [Sum.elim_inl]
            refine bindE (f54_eq K vs ps (K.map (updV (vF K vs) cs)) (by omega) (by rw [List.length_map]; omega) (by omega)) ?_
            rw [dec_t h2]
          · refine bindE q2 ?_
            have : ¬ chOk K cs = true := by
              unfold chOk
              rw [h4, Bool.true_and, List.all_eq_true]
              exact fun h => q1 fun c hc => of_decide_eq_true (h c hc)
            rw [if_neg (fun h => this h.2)]
            rfl
        · have : ¬ chOk K cs = true := by
            unfold chOk
            simp [h4]
          rw [if_neg (fun h => this h.2)]
          have h4 : keysB none (cs.map (·.1)) = false := by simpa using h4
          rw [h4]
          rfl
      · rw [dec_f h3, if_neg (fun h => h3 (Option.some.inj h.1))]
        rfl
    · rw [dec_f h2]
      rfl
  · rw [if_neg h1]
    have h1 : half_formed K vs ps = false := by simpa using h1
    rw [h1]
    rfl

end Go.V.G
