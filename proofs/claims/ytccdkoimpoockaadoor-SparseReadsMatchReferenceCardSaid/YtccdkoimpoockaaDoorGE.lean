/- Two maps with the same root are the same, or there is a collision. -/
import Derived.Test.YtccdkoimpoockaaDoorPA
set_option linter.all false
set_option linter.unusedVariables false
set_option linter.unusedSectionVars false
set_option linter.unusedSimpArgs false
namespace Go.V.G

/-! ### The strings of a map -/
theorem mem_acc (l : List Ent) {s : ByteArray} : ∀ (h : Nat) (low : Int) (acc : List ByteArray), s ∈ acc → s ∈ Hs l h low acc
  | 0, low, acc, hs => by unfold Hs; split; exact hs; simp [hs]
  | h + 1, low, acc, hs => by
    unfold Hs
    have h1 := mem_acc l h low acc hs
    have h2 := mem_acc l h (low + 2 ^ h) _ h1
    split
    · exact h2
    · simp [h2]

theorem Hs_size {l : List Ent} (hv : ∀ e ∈ l, e.2.1.size ≤ 65536) : ∀ (h : Nat) (low : Int) (acc : List ByteArray), (∀ s ∈ acc, s.size ≤ 70000) → ∀ s ∈ Hs l h low acc, s.size ≤ 70000
  | 0, low, acc, ha, s, hs => by
    unfold Hs at hs
    split at hs
    · exact ha s hs
    · rcases List.mem_append.1 hs with hs | hs
      · exact ha s hs
      · simp only [List.mem_singleton] at hs
        subst hs
        rw [leafS_size]
        have := atK_size hv low
        omega
  | h + 1, low, acc, ha, s, hs => by
    unfold Hs at hs
    have h2 := Hs_size hv h (low + 2 ^ h) _ (Hs_size hv h low acc ha)
    split at hs
    · exact h2 s hs
    · rcases List.mem_append.1 hs with hs | hs
      · exact h2 s hs
      · simp only [List.mem_singleton] at hs
        subst hs
        rw [joinS_size, D_size hv, D_size hv]
        omega

/-- No two different strings of two lists have the same digest, and none has the digest zero. -/
structure Clean (a b : List ByteArray) : Prop where
  inj : ∀ x ∈ a, ∀ y ∈ b, sha x = sha y → x = y
  left : ∀ x ∈ a, sha x ≠ zeroD
  right : ∀ x ∈ b, sha x ≠ zeroD

theorem app_inj_right {a b c : ByteArray} (h : a ++ b = a ++ c) : b = c := by
  have h1 : (a ++ b).data.toList = (a ++ c).data.toList := by rw [h]
  simp only [ByteArray.data_append, Array.toList_append, List.append_cancel_left_eq] at h1
  cases b; cases c
  simp only at h1
  rw [Array.toList_inj.1 h1]

theorem app_inj {a b c d : ByteArray} (hs : a.size = c.size) (h : a ++ b = c ++ d) : a = c ∧ b = d := by
  have h1 : (a ++ b).data.toList = (c ++ d).data.toList := by rw [h]
  simp only [ByteArray.data_append, Array.toList_append] at h1
  have hl : a.data.toList.length = c.data.toList.length := by rw [Array.length_toList, Array.length_toList]; exact hs
  obtain ⟨h2, h3⟩ := List.append_inj h1 hl
  cases a; cases b; cases c; cases d
  simp only at h2 h3
  rw [Array.toList_inj.1 h2, Array.toList_inj.1 h3]
  exact ⟨rfl, rfl⟩

theorem leafS_inj {k : Int} {v w : ByteArray} (h : leafS k v = leafS k w) : v = w := app_inj_right h
theorem joinS_inj {a b c d : ByteArray} (ha : a.size = 32) (hc : c.size = 32) (h : joinS a b = joinS c d) : a = c ∧ b = d := by
  unfold joinS at h
  obtain ⟨h1, h2⟩ := app_inj (by rw [ByteArray.size_append, ByteArray.size_append, ha, hc]) h
  exact ⟨app_inj_right h1, h2⟩

theorem same_part {l m : List Ent} (hl : ∀ e ∈ l, e.2.1.size ≤ 65536) (hm : ∀ e ∈ m, e.2.1.size ≤ 65536) {A B : List ByteArray} (hc : Clean A B) : ∀ (h : Nat) (low : Int) (acc acc' : List ByteArray), (∀ s ∈ Hs l h low acc, s ∈ A) → (∀ s ∈ Hs m h low acc', s ∈ B) →
    D l h low = D m h low → ∀ j : Nat, j < 2 ^ h → atK l (low + j) = atK m (low + j)
  | 0, low, acc, acc', hA, hB, heq, j, hj => by
    have : j = 0 := by simpa using hj
    subst this
    simp only [Int.natCast_zero, Int.add_zero]
    unfold D leafD at heq
    by_cases h1 : atK l low = emp
    · by_cases h2 : atK m low = emp
      · rw [h1, h2]
      · rw [if_pos h1, if_neg h2] at heq
        exact absurd heq.symm (hc.right _ (hB _ (by unfold Hs; rw [if_neg h2]; simp)))
    · by_cases h2 : atK m low = emp
      · rw [if_neg h1, if_pos h2] at heq
        exact absurd heq (hc.left _ (hA _ (by unfold Hs; rw [if_neg h1]; simp)))
      · rw [if_neg h1, if_neg h2] at heq
        exact leafS_inj (hc.inj _ (hA _ (by unfold Hs; rw [if_neg h1]; simp)) _ (hB _ (by unfold Hs; rw [if_neg h2]; simp)) heq)
  | h + 1, low, acc, acc', hA, hB, heq, j, hj => by
    have subA : ∀ s ∈ Hs l h (low + 2 ^ h) (Hs l h low acc), s ∈ A := fun s hs => hA s (by unfold Hs; split; exact hs; simp [hs])
    have subB : ∀ s ∈ Hs m h (low + 2 ^ h) (Hs m h low acc'), s ∈ B := fun s hs => hB s (by unfold Hs; split; exact hs; simp [hs])
    have both : D l h low = D m h low ∧ D l h (low + 2 ^ h) = D m h (low + 2 ^ h) := by
      unfold D joinD at heq
      by_cases h1 : D l h low = zeroD ∧ D l h (low + 2 ^ h) = zeroD
      · by_cases h2 : D m h low = zeroD ∧ D m h (low + 2 ^ h) = zeroD
        · exact ⟨h1.1.trans h2.1.symm, h1.2.trans h2.2.symm⟩
        · rw [if_pos h1, if_neg h2] at heq
          exact absurd heq.symm (hc.right _ (hB _ (by unfold Hs; rw [if_neg h2]; simp)))
      · by_cases h2 : D m h low = zeroD ∧ D m h (low + 2 ^ h) = zeroD
        · rw [if_neg h1, if_pos h2] at heq
          exact absurd heq (hc.left _ (hA _ (by unfold Hs; rw [if_neg h1]; simp)))
        · rw [if_neg h1, if_neg h2] at heq
          exact joinS_inj (D_size hl _ _) (D_size hm _ _) (hc.inj _ (hA _ (by unfold Hs; rw [if_neg h1]; simp)) _ (hB _ (by unfold Hs; rw [if_neg h2]; simp)) heq)
    have hp : 2 ^ (h + 1) = 2 ^ h + 2 ^ h := by omega
    by_cases hjl : j < 2 ^ h
    · exact same_part hl hm hc h low acc acc' (fun s hs => subA s (mem_acc l h _ _ hs)) (fun s hs => subB s (mem_acc m h _ _ hs)) both.1 j hjl
    · have := same_part hl hm hc h (low + 2 ^ h) _ _ subA subB both.2 (j - 2 ^ h) (by omega)
      have e : low + 2 ^ h + ((j - 2 ^ h : Nat) : Int) = low + (j : Int) := by
        have : ((j - 2 ^ h : Nat) : Int) = (j : Int) - ((2 ^ h : Nat) : Int) := by omega
        rw [this]
        have e2 : ((2 ^ h : Nat) : Int) = 2 ^ h := by push_cast; rfl
        rw [e2]
        omega
      rw [e] at this
      exact this

theorem atK_none {l : List Ent} {k : Int} (h : ∀ e ∈ l, e.1 ≠ k) : atK l k = emp := by
  induction l with
  | nil => rfl
  | cons e l ih =>
    unfold atK
    rw [if_neg (h e (by simp))]
    exact ih fun x hx => h x (by simp [hx])

theorem emp_size : emp.size = 0 := rfl

/-- Two maps with the same values at all keys are the same. -/
theorem map_ext : ∀ {l m : List Ent}, Valid l → Valid m → (∀ j : Nat, j < 64 → atK l (0 + j) = atK m (0 + j)) → l = m := by
  intro l
  induction l with
  | nil =>
    intro m _ hm h
    cases m with
    | nil => rfl
    | cons e m =>
      have hk := hm.key e (by simp)
      have := h e.1.toNat (by omega)
      have e1 : (0 : Int) + (e.1.toNat : Int) = e.1 := by omega
      rw [e1] at this
      have e2 : atK (e :: m) e.1 = e.2.1 := by simp [atK]
      rw [e2] at this
      have hs := (hm.val e (by simp)).1
      rw [← this] at hs
      exact absurd emp_size hs
  | cons a l ih =>
    intro m hl hm h
    cases m with
    | nil =>
      have hk := hl.key a (by simp)
      have := h a.1.toNat (by omega)
      have e1 : (0 : Int) + (a.1.toNat : Int) = a.1 := by omega
      rw [e1] at this
      have e2 : atK (a :: l) a.1 = a.2.1 := by simp [atK]
      rw [e2] at this
      have hs := (hl.val a (by simp)).1
      rw [this] at hs
      exact absurd emp_size hs
    | cons b m =>
      have hla := List.pairwise_cons.1 hl.asc
      have hmb := List.pairwise_cons.1 hm.asc
      have hka := hl.key a (by simp)
      have hkb := hm.key b (by simp)
      have ha := h a.1.toNat (by omega)
      have hb := h b.1.toNat (by omega)
      have e1 : (0 : Int) + (a.1.toNat : Int) = a.1 := by omega
      have e2 : (0 : Int) + (b.1.toNat : Int) = b.1 := by omega
      rw [e1] at ha
      rw [e2] at hb
      have va : atK (a :: l) a.1 = a.2.1 := by simp [atK]
      have vb : atK (b :: m) b.1 = b.2.1 := by simp [atK]
      rw [va] at ha
      rw [vb] at hb
      have hsa := (hl.val a (by simp)).1
      have hsb := (hm.val b (by simp)).1
      have hkey : a.1 = b.1 := by
        rcases Int.lt_trichotomy a.1 b.1 with hlt | heq | hgt
        · rw [atK_none (fun e he => by
            rcases List.mem_cons.1 he with rfl | he
            · omega
            · have := hmb.1 e he; omega)] at ha
          rw [ha] at hsa
          exact absurd emp_size hsa
        · exact heq
        · rw [atK_none (fun e he => by
            rcases List.mem_cons.1 he with rfl | he
            · omega
            · have := hla.1 e he; omega)] at hb
          rw [← hb] at hsb
          exact absurd emp_size hsb
      have hval : a.2.1 = b.2.1 := by
        rw [hkey, vb] at ha
        exact ha
      have hab : a = b := by
        obtain ⟨a1, a2, a3⟩ := a
        obtain ⟨b1, b2, b3⟩ := b
        simp only at hkey hval
        rw [hkey, hval]
      subst hab
      have hl' : Valid l := ⟨fun e he => hl.key e (by simp [he]), fun e he => hl.val e (by simp [he]), hla.2⟩
      have hm' : Valid m := ⟨fun e he => hm.key e (by simp [he]), fun e he => hm.val e (by simp [he]), hmb.2⟩
      rw [ih hl' hm' (fun j hj => by
        by_cases hj2 : (0 : Int) + j = a.1
        · rw [hj2, atK_none (fun e he => by have := hla.1 e he; omega), atK_none (fun e he => by have := hmb.1 e he; omega)]
        · have := h j hj
          simp only [atK] at this
          rw [if_neg (fun h => hj2 h.symm), if_neg (fun h => hj2 h.symm)] at this
          exact this)]

/-! ### The checks of the law -/
theorem sameEnt (a b : Ent) : (decide (a.1 = b.1) && (decide (a.2.1 = b.2.1) && true)) = decide (a = b) := by
  obtain ⟨a1, a2, a3⟩ := a
  obtain ⟨b1, b2, b3⟩ := b
  simp only [Bool.and_true, Prod.mk.injEq]
  by_cases h1 : a1 = b1 <;> by_cases h2 : a2 = b2 <;> simp [h1, h2]

theorem same_loop (l m : List Ent) (hl : l.length ≤ 1000000) (hlen : l.length = m.length) : ∀ (rest : List Ent) (n k : Nat), l.drop n = rest → n ≤ l.length → rest.length < k → l.take n = m.take n →
    (l = m ∧ f25_l4 l m k n = some (.inl ((), (), ()))) ∨ (l ≠ m ∧ f25_l4 l m k n = some (.inr ((false, ()), (), ())))
  | [], n, 0, _, _, hm, _ => by simp at hm
  | [], n, k + 1, hd, hn, _, ht => by
    have hle : l.length ≤ n := List.drop_eq_nil_iff.1 hd
    left
    refine ⟨?_, ?_⟩
    · rw [List.take_of_length_le hle, List.take_of_length_le (by omega)] at ht
      exact ht
    · rw [f25_l4, dec_f (by omega)]; rfl
  | e :: rest, n, 0, _, _, hm, _ => by simp at hm
  | e :: rest, n, k + 1, hd, hn, hm, ht => by
    obtain ⟨hlt, hg, hd'⟩ := drop_get hd
    have he : at_ TE l (n : Int) = e := at_get (T := TE) hg
    obtain ⟨b, hb⟩ : ∃ b, m[n]? = some b := ⟨m[n], List.getElem?_eq_getElem (by omega)⟩
    have hbe : at_ TE m (n : Int) = b := at_get (T := TE) hb
    have hi : inR (n : Int) l.length = true := inR_of (by omega) (by omega)
    have hi2 : inR (n : Int) m.length = true := inR_of (by omega) (by omega)
    simp only [List.length_cons] at hm
    by_cases heb : e = b
    · have step : f25_l4 l m (k + 1) n = f25_l4 l m k ((n + 1 : Nat) : Int) := by
        rw [f25_l4]
        simp only [dec_t (show (n : Int) < l.length by omega), cond_true, hi, hi2, he, hbe, sameEnt, dec_t heb, Bool.not_true, cond_false, next64 n (by omega)]
      rw [step]
      refine same_loop l m hl hlen rest (n + 1) k hd' hlt (by omega) ?_
      rw [List.getElem?_eq_getElem hlt] at hg
      rw [List.getElem?_eq_getElem (by omega)] at hb
      rw [List.take_succ_eq_append_getElem hlt, List.take_succ_eq_append_getElem (by omega), ht, Option.some.inj hg, Option.some.inj hb, heb]
    · have step : f25_l4 l m (k + 1) n = some (.inr ((false, ()), (), ())) := by
        rw [f25_l4]
        simp only [dec_t (show (n : Int) < l.length by omega), cond_true, hi, hi2, he, hbe, sameEnt, dec_f heb, Bool.not_false]
      refine .inr ⟨fun h => ?_, step⟩
      rw [h, hb] at hg
      exact heb (Option.some.inj hg).symm

theorem f25_eq (l m : List Ent) (hl : l.length ≤ 1000000) : f25 l m = some (decide (l = m), ()) := by
  unfold f25
  by_cases hlen : l.length = m.length
  · simp only [dec_f (show ¬ (l.length : Int) ≠ m.length by omega), cond_false]
    rw [len0]
    rcases same_loop l m hl hlen l 0 (l.length + 1) rfl (by omega) (by omega) (by simp) with ⟨h1, h2⟩ | ⟨h1, h2⟩
    · rw [dec_t h1]; exact bindE h2 rfl
    · rw [dec_f h1]; exact bindE h2 rfl
  · simp only [dec_t (show (l.length : Int) ≠ m.length by omega), cond_true]
    rw [dec_f (fun h => hlen (by rw [h]))]

theorem nought_loop (a : List ByteArray) (hl : a.length ≤ 1000000) (hs : ∀ s ∈ a, s.size ≤ 1000000) : ∀ (rest : List ByteArray) (n k : Nat), a.drop n = rest → n ≤ a.length → rest.length < k →
    ((∃ s ∈ rest, sha s = zeroD) ∧ f60_l2 a k n = some (.inr ((true, ()), (), ()))) ∨ ((¬ ∃ s ∈ rest, sha s = zeroD) ∧ f60_l2 a k n = some (.inl ((), (), ())))
  | [], n, 0, _, _, hm => by simp at hm
  | [], n, k + 1, hd, hn, _ => by
    have hle : a.length ≤ n := List.drop_eq_nil_iff.1 hd
    refine .inr ⟨(fun ⟨s, h, _⟩ => by cases h), ?_⟩
    rw [f60_l2, dec_f (by omega)]; rfl
  | e :: rest, n, 0, _, _, hm => by simp at hm
  | e :: rest, n, k + 1, hd, hn, hm => by
    obtain ⟨hlt, hg, hd'⟩ := drop_get hd
    have he : at_ .str a (n : Int) = e := at_get (T := .str) hg
    have hi : inR (n : Int) a.length = true := inR_of (by omega) (by omega)
    have h53 := (sha_spec e (hs e (List.mem_of_getElem? hg))).2.1
    simp only [List.length_cons] at hm
    by_cases hz : sha e = zeroD
    · have step : f60_l2 a (k + 1) n = some (.inr ((true, ()), (), ())) := by
        rw [f60_l2]
        simp only [dec_t (show (n : Int) < a.length by omega), cond_true, hi, he, h53, Option.bind_some, zero_eq.2, dec_t hz]
      exact .inl ⟨⟨e, by simp, hz⟩, step⟩
    · have step : f60_l2 a (k + 1) n = f60_l2 a k ((n + 1 : Nat) : Int) := by
        rw [f60_l2]
        simp only [dec_t (show (n : Int) < a.length by omega), cond_true, hi, he, h53, Option.bind_some, zero_eq.2, dec_f hz, cond_false, next64 n (by omega)]
      rw [step]
      rcases nought_loop a hl hs rest (n + 1) k hd' hlt (by omega) with ⟨⟨s, h1, h2⟩, h3⟩ | ⟨h1, h3⟩
      · exact .inl ⟨⟨s, by simp [h1], h2⟩, h3⟩
      · refine .inr ⟨fun ⟨s, h4, h5⟩ => ?_, h3⟩
        rcases List.mem_cons.1 h4 with rfl | h4
        · exact hz h5
        · exact h1 ⟨s, h4, h5⟩

theorem f60_eq (a : List ByteArray) (hl : a.length ≤ 1000000) (hs : ∀ s ∈ a, s.size ≤ 1000000) : f60 a = some (decide (∃ s ∈ a, sha s = zeroD), ()) := by
  unfold f60
  rw [len0]
  rcases nought_loop a hl hs a 0 (a.length + 1) rfl (by omega) (by omega) with ⟨h, h1⟩ | ⟨h, h1⟩
  · rw [dec_t h]; exact bindE h1 rfl
  · rw [dec_f h]; exact bindE h1 rfl

theorem digests_loop (a b : List ByteArray) (hl : b.length ≤ 1000000) (hs : ∀ s ∈ b, s.size ≤ 1000000) : ∀ (rest : List ByteArray) (n k : Nat) (acc : List ByteArray), b.drop n = rest → n ≤ b.length → rest.length < k → acc.length + rest.length ≤ 1000000 →
    f59_l3 a b k n acc = some ((a, b, ()), (), (acc ++ rest.map sha, ()))
  | [], n, 0, _, _, _, hm, _ => by simp at hm
  | [], n, k + 1, acc, hd, hn, _, _ => by
    have hle : b.length ≤ n := List.drop_eq_nil_iff.1 hd
    rw [f59_l3, dec_f (by omega), List.map_nil, List.append_nil]; rfl
  | e :: rest, n, 0, _, _, _, hm, _ => by simp at hm
  | e :: rest, n, k + 1, acc, hd, hn, hm, ha => by
    obtain ⟨hlt, hg, hd'⟩ := drop_get hd
    have he : at_ .str b (n : Int) = e := at_get (T := .str) hg
    have hi : inR (n : Int) b.length = true := inR_of (by omega) (by omega)
    have h53 := (sha_spec e (hs e (List.mem_of_getElem? hg))).2.1
    simp only [List.length_cons] at hm ha
    rw [f59_l3]
    simp only [dec_t (show (n : Int) < b.length by omega), cond_true, hi, he, h53, Option.bind_some, List.length_singleton, dec_t (show acc.length + 1 ≤ appLim by unfold appLim; omega), next64 n (by omega)]
    rw [digests_loop a b hl hs rest (n + 1) k (acc ++ [sha e]) hd' hlt (by omega) (by simp; omega), List.append_assoc]
    rfl

theorem inner_loop (a b : List ByteArray) (hl : b.length ≤ 1000000) (i : Nat) (x : ByteArray) (hx : a[i]? = some x) (hai : i < a.length) : ∀ (rest : List ByteArray) (n k : Nat), b.drop n = rest → n ≤ b.length → rest.length < k →
    ((∃ y ∈ rest, x ≠ y ∧ sha x = sha y) ∧ f59_l11 a b i (sha x) (b.map sha) k n = some (.inr ((true, ()), (), ()))) ∨
    ((¬ ∃ y ∈ rest, x ≠ y ∧ sha x = sha y) ∧ f59_l11 a b i (sha x) (b.map sha) k n = some (.inl ((a, b, (i : Int), ()), (), (b.map sha, ()))))
  | [], n, 0, _, _, hm => by simp at hm
  | [], n, k + 1, hd, hn, _ => by
    have hle : b.length ≤ n := List.drop_eq_nil_iff.1 hd
    refine .inr ⟨(fun ⟨s, h, _⟩ => by cases h), ?_⟩
    rw [f59_l11, dec_f (by omega)]; rfl
  | e :: rest, n, 0, _, _, hm => by simp at hm
  | e :: rest, n, k + 1, hd, hn, hm => by
    obtain ⟨hlt, hg, hd'⟩ := drop_get hd
    have he : at_ .str b (n : Int) = e := at_get (T := .str) hg
    have hxe : at_ .str a (i : Int) = x := at_get (T := .str) hx
    have hme : at_ .str (b.map sha) (n : Int) = sha e := at_get (T := .str) (by rw [List.getElem?_map, hg]; rfl)
    have hi : inR (n : Int) b.length = true := inR_of (by omega) (by omega)
    have hi2 : inR (i : Int) a.length = true := inR_of (by omega) (by omega)
    have hi3 : inR (n : Int) (b.map sha).length = true := inR_of (by omega) (by rw [List.length_map]; omega)
    simp only [List.length_cons] at hm
    have ih := inner_loop a b hl i x hx hai rest (n + 1) k hd' hlt (by omega)
    by_cases hne : x ≠ e ∧ sha x = sha e
    · have step : f59_l11 a b i (sha x) (b.map sha) (k + 1) n = some (.inr ((true, ()), (), ())) := by
        rw [f59_l11]
        simp only [dec_t (show (n : Int) < b.length by omega), cond_true, hi, hi2, hi3, he, hxe, hme, dec_f hne.1, Bool.not_false, dec_t hne.2]
      exact .inl ⟨⟨e, by simp, hne⟩, step⟩
    · have step : f59_l11 a b i (sha x) (b.map sha) (k + 1) n = f59_l11 a b i (sha x) (b.map sha) k ((n + 1 : Nat) : Int) := by
        rw [f59_l11]
        by_cases hxy : x = e
        · simp only [dec_t (show (n : Int) < b.length by omega), cond_true, hi, hi2, hi3, he, hxe, hme, dec_t hxy, Bool.not_true, cond_false, next64 n (by omega)]
        · have hsh : ¬ sha x = sha e := fun h => hne ⟨hxy, h⟩
          simp only [dec_t (show (n : Int) < b.length by omega), cond_true, hi, hi2, hi3, he, hxe, hme, dec_f hxy, Bool.not_false, dec_f hsh, cond_false, next64 n (by omega)]
      rw [step]
      rcases ih with ⟨⟨y, h1, h2⟩, h3⟩ | ⟨h1, h3⟩
      · exact .inl ⟨⟨y, by simp [h1], h2⟩, h3⟩
      · refine .inr ⟨fun ⟨y, h4, h5⟩ => ?_, h3⟩
        rcases List.mem_cons.1 h4 with rfl | h4
        · exact hne h5
        · exact h1 ⟨y, h4, h5⟩

theorem outer_loop (a b : List ByteArray) (hla : a.length ≤ 1000000) (hl : b.length ≤ 1000000) (hs : ∀ s ∈ a, s.size ≤ 1000000) : ∀ (rest : List ByteArray) (n k : Nat), a.drop n = rest → n ≤ a.length → rest.length < k →
    ((∃ x ∈ rest, ∃ y ∈ b, x ≠ y ∧ sha x = sha y) ∧ f59_l7 k a b n (b.map sha) = some (.inr ((true, ()), (), ()))) ∨
    ((¬ ∃ x ∈ rest, ∃ y ∈ b, x ≠ y ∧ sha x = sha y) ∧ f59_l7 k a b n (b.map sha) = some (.inl ((), (), ())))
  | [], n, 0, _, _, hm => by simp at hm
  | [], n, k + 1, hd, hn, _ => by
    have hle : a.length ≤ n := List.drop_eq_nil_iff.1 hd
    refine .inr ⟨(fun ⟨s, h, _⟩ => by cases h), ?_⟩
    rw [f59_l7, dec_f (by omega)]; rfl
  | e :: rest, n, 0, _, _, hm => by simp at hm
  | e :: rest, n, k + 1, hd, hn, hm => by
    obtain ⟨hlt, hg, hd'⟩ := drop_get hd
    have he : at_ .str a (n : Int) = e := at_get (T := .str) hg
    have hi : inR (n : Int) a.length = true := inR_of (by omega) (by omega)
    have h53 := (sha_spec e (hs e (List.mem_of_getElem? hg))).2.1
    simp only [List.length_cons] at hm
    rcases inner_loop a b hl n e hg hlt b 0 (b.length + 1) rfl (by omega) (by omega) with ⟨h, hin⟩ | ⟨h, hin⟩
    · have step : f59_l7 (k + 1) a b n (b.map sha) = some (.inr ((true, ()), (), ())) := by
        rw [f59_l7]
        simp only [dec_t (show (n : Int) < a.length by omega), cond_true, hi, he, h53, Option.bind_some, len0]
        exact bindE hin rfl
      exact .inl ⟨⟨e, by simp, h⟩, step⟩
    · have step : f59_l7 (k + 1) a b n (b.map sha) = f59_l7 k a b ((n + 1 : Nat) : Int) (b.map sha) := by
        rw [f59_l7]
        simp only [dec_t (show (n : Int) < a.length by omega), cond_true, hi, he, h53, Option.bind_some, len0]
        refine bindE hin ?_
        show f59_l7 k a b (IntKind.wrap .i64 ((n : Int) + 1)) (b.map sha) = _
        rw [next64 n (by omega)]
      rw [step]
      rcases outer_loop a b hla hl hs rest (n + 1) k hd' hlt (by omega) with ⟨⟨x, h3, h4⟩, h5⟩ | ⟨h2, h5⟩
      · exact .inl ⟨⟨x, by simp [h3], h4⟩, h5⟩
      · refine .inr ⟨fun ⟨x, h3, h4⟩ => ?_, h5⟩
        rcases List.mem_cons.1 h3 with rfl | h3
        · exact h h4
        · exact h2 ⟨x, h3, h4⟩

theorem f59_eq (a b : List ByteArray) (hla : a.length ≤ 1000000) (hl : b.length ≤ 1000000) (hs : ∀ s ∈ a, s.size ≤ 1000000) (hs2 : ∀ s ∈ b, s.size ≤ 1000000) : f59 a b = some (decide (∃ x ∈ a, ∃ y ∈ b, x ≠ y ∧ sha x = sha y), ()) := by
  unfold f59
  rw [len0]
  refine bindE (digests_loop a b hl hs2 b 0 (b.length + 1) [] rfl (by omega) (by omega) (by simp; omega)) ?_
  simp only [List.nil_append]
  rw [len0]
  rcases outer_loop a b hla hl hs a 0 (a.length + 1) rfl (by omega) (by omega) with ⟨h, h1⟩ | ⟨h, h1⟩
  · rw [dec_t h]; exact bindE h1 rfl
  · rw [dec_f h]; exact bindE h1 rfl

/-- 'Out': it says true unless the lists are clean. -/
theorem f30_eq (a b : List ByteArray) (hla : a.length ≤ 1000000) (hl : b.length ≤ 1000000) (hs : ∀ s ∈ a, s.size ≤ 1000000) (hs2 : ∀ s ∈ b, s.size ≤ 1000000) : ∃ r, f30 a b = some (r, ()) ∧ (r = true ∨ Clean a b) := by
  unfold f30
  by_cases h1 : ∃ x ∈ a, ∃ y ∈ b, x ≠ y ∧ sha x = sha y
  · refine ⟨true, bindE (f59_eq a b hla hl hs hs2) ?_, .inl rfl⟩
    rw [dec_t h1]; rfl
  · by_cases h2 : ∃ s ∈ a, sha s = zeroD
    · refine ⟨true, bindE (f59_eq a b hla hl hs hs2) ?_, .inl rfl⟩
      rw [dec_f h1]
      refine bindE (f60_eq a hla hs) ?_
      rw [dec_t h2]; rfl
    · by_cases h3 : ∃ s ∈ b, sha s = zeroD
      · refine ⟨true, bindE (f59_eq a b hla hl hs hs2) ?_, .inl rfl⟩
        rw [dec_f h1]
        refine bindE (f60_eq a hla hs) ?_
        rw [dec_f h2]
        refine bindE (f60_eq b hl hs2) ?_
        rw [dec_t h3]
      · refine ⟨false, bindE (f59_eq a b hla hl hs hs2) ?_, .inr ⟨fun x hx y hy e => Classical.byContradiction fun hne => h1 ⟨x, hx, y, hy, hne, e⟩, fun x hx e => h2 ⟨x, hx, e⟩, fun x hx e => h3 ⟨x, hx, e⟩⟩⟩
        rw [dec_f h1]
        refine bindE (f60_eq a hla hs) ?_
        rw [dec_f h2]
        refine bindE (f60_eq b hl hs2) ?_
        rw [dec_f h3]

/-- The strings that are hashed for a map. -/
def hashed (l : List Ent) : List ByteArray := Hs l 6 0 []

theorem f31_eq {l : List Ent} (h : Valid l) : f31 l = some (hashed l, ()) := by
  have := f38_eq (l := l) (fun e he => (h.val e he).2) (by have := h.len; omega) 6 66 0 [] (by omega) (by omega) (by omega) (by simp)
  unfold f31
  exact bindE this rfl

theorem hashed_len (l : List Ent) : (hashed l).length ≤ 1000 := by
  have := Hs_len l 6 0 []
  unfold hashed
  simp at this
  omega
theorem hashed_size {l : List Ent} (h : Valid l) : ∀ s ∈ hashed l, s.size ≤ 1000000 := fun s hs => by
  have := Hs_size (l := l) (fun e he => (h.val e he).2) 6 0 [] (fun _ h => nomatch h) s hs
  omega

theorem root_inj {l m : List Ent} (hl : Valid l) (hm : Valid m) (hc : Clean (hashed l) (hashed m)) (h : rootD l = rootD m) : l = m := by
  refine map_ext hl hm fun j hj => ?_
  exact same_part (fun e he => (hl.val e he).2) (fun e he => (hm.val e he).2) hc 6 0 [] [] (fun s hs => hs) (fun s hs => hs) h j (by omega)

end Go.V.G
namespace Go.V.G
def sv0 : ByteArray := (⟨#[5, 163, 59, 255, 173, 143, 171, 111, 116, 157, 65, 171, 0, 124, 117, 57, 34, 133, 40, 133, 88, 74, 242, 64, 64, 230, 178, 185, 240, 176, 14, 119]⟩ : ByteArray)
def sv1 : ByteArray := (⟨#[104, 133, 106, 231, 5, 95, 144, 70, 201, 12, 95, 152, 160, 95, 92, 220, 92, 2, 12, 250, 166, 111, 54, 132, 138, 7, 234, 87, 61, 35, 122, 33]⟩ : ByteArray)
def sv2 : ByteArray := (⟨#[114, 97, 203, 15, 14, 149, 184, 165, 229, 229, 49, 33, 57, 217, 117, 250, 37, 159, 195, 250, 189, 179, 96, 74, 46, 61, 132, 250, 49, 157, 96, 219]⟩ : ByteArray)
def sv3 : ByteArray := (⟨#[75, 20, 164, 92, 59, 76, 47, 37, 30, 155, 54, 45, 109, 183, 168, 202, 127, 99, 155, 192, 241, 104, 106, 161, 49, 13, 3, 181, 36, 22, 42, 213]⟩ : ByteArray)
def sv4 : ByteArray := (⟨#[222, 188, 205, 34, 10, 53, 77, 155, 240, 31, 180, 52, 73, 87, 15, 202, 79, 152, 96, 11, 58, 190, 247, 181, 35, 94, 153, 37, 151, 135, 110, 228]⟩ : ByteArray)
def sv5 : ByteArray := (⟨#[125, 194, 93, 128, 183, 232, 175, 166, 98, 238, 219, 6, 168, 84, 72, 153, 13, 212, 244, 1, 173, 20, 239, 239, 44, 20, 157, 151, 218, 182, 246, 226]⟩ : ByteArray)
def sv6 : ByteArray := (⟨#[160, 83, 207, 71, 30, 167, 44, 130, 12, 86, 192, 126, 196, 164, 13, 58, 31, 173, 169, 93, 109, 103, 104, 106, 92, 14, 77, 52, 153, 245, 11, 180]⟩ : ByteArray)
def exIn : ByteArray := ⟨#[8, 10, 97]⟩
theorem sv0_ref : f53 exIn = some (sv0, ()) := by kernel_rfl
theorem sv1_ref : f53 (joinS zeroD sv0) = some (sv1, ()) := by kernel_rfl
theorem sv2_ref : f53 (joinS sv1 zeroD) = some (sv2, ()) := by kernel_rfl
theorem sv3_ref : f53 (joinS zeroD sv2) = some (sv3, ()) := by kernel_rfl
theorem sv4_ref : f53 (joinS sv3 zeroD) = some (sv4, ()) := by kernel_rfl
theorem sv5_ref : f53 (joinS sv4 zeroD) = some (sv5, ()) := by kernel_rfl
theorem sv6_ref : f53 (joinS sv5 zeroD) = some (sv6, ()) := by kernel_rfl
end Go.V.G
