/- Maps: how they are made; lists of strings that are hashed. -/
import Derived.Test.YtccdkoimpoockaaDoorPFull
set_option linter.all false
set_option linter.unusedVariables false
set_option linter.unusedSectionVars false
set_option linter.unusedSimpArgs false
namespace Go.V.G

theorem size0 {s : ByteArray} (h : s.size = 0) : s = emp := by
  cases s with
  | mk d =>
    have : d.size = 0 := h
    have : d = #[] := Array.eq_empty_of_size_eq_zero this
    rw [this]
    rfl
theorem ne_emp {s : ByteArray} (h : s ≠ emp) : s.size ≠ 0 := fun e => h (size0 e)

/-! ### Put -/
def putAux (k : Int) (v : ByteArray) : Bool → List Ent → List Ent
  | true, [] => []
  | false, [] => [(k, v, ())]
  | false, e :: r => if e.1 > k then (k, v, ()) :: e :: putAux k v true r else if e.1 ≠ k then e :: putAux k v false r else putAux k v false r
  | true, e :: r => if e.1 ≠ k then e :: putAux k v true r else putAux k v true r

def put (l : List Ent) (k : Int) (v : ByteArray) : List Ent := putAux k v (decide (v = emp)) l

theorem putAux_len (k : Int) (v : ByteArray) : ∀ (l : List Ent) (d : Bool), (putAux k v d l).length ≤ l.length + 1
  | [], true => by simp [putAux]
  | [], false => by simp [putAux]
  | e :: r, false => by
    unfold putAux
    have h1 := putAux_len k v r true
    have h2 := putAux_len k v r false
    have h3 := putAux_true_len k v r
    split
    · simp only [List.length_cons]; omega
    · split
      · simp only [List.length_cons]; omega
      · simp only [List.length_cons]; omega
  | e :: r, true => by
    unfold putAux
    have h1 := putAux_len k v r true
    split
    · simp only [List.length_cons]; omega
    · simp only [List.length_cons]; omega
where putAux_true_len (k : Int) (v : ByteArray) : ∀ (l : List Ent), (putAux k v true l).length ≤ l.length
  | [] => by simp [putAux]
  | e :: r => by
    unfold putAux
    have := putAux_true_len k v r
    split
    · simp only [List.length_cons]; omega
    · simp only [List.length_cons]; omega

theorem put_loop (l : List Ent) (k : Int) (v : ByteArray) (hl : l.length ≤ 1000) : ∀ (rest : List Ent) (n m : Nat) (d : Bool) (acc : List Ent), l.drop n = rest → n ≤ l.length → rest.length < m → acc.length ≤ 2 * n →
    ∃ d' acc', f33_l4 l k v m d n acc = some ((k, v, d', ()), (), (acc', ())) ∧ (bif !d' then acc' ++ [(k, v, ())] else acc') = acc ++ putAux k v d rest ∧ acc'.length ≤ 2 * l.length
  | [], n, 0, _, _, _, _, hm, _ => by simp at hm
  | [], n, m + 1, d, acc, hd, hn, _, ha => by
    have : l.length ≤ n := List.drop_eq_nil_iff.1 hd
    refine ⟨d, acc, ?_, ?_, by omega⟩
    · rw [f33_l4, dec_f (by omega)]; rfl
    · cases d <;> simp [putAux]
  | e :: rest, n, 0, _, _, _, _, hm, _ => by simp at hm
  | e :: rest, n, m + 1, d, acc, hd, hn, hm, ha => by
    obtain ⟨hlt, hg, hd'⟩ := drop_get hd
    have he : at_ TE l (n : Int) = e := at_get (T := TE) hg
    have hi : inR (n : Int) l.length = true := inR_of (by omega) (by omega)
    simp only [List.length_cons] at hm
    have lim1 : acc.length + 1 ≤ appLim := by unfold appLim; omega
    have lim2 : acc.length + 1 + 1 ≤ appLim := by unfold appLim; omega
    have ih := fun d' acc' ha' => put_loop l k v hl rest (n + 1) m d' acc' hd' hlt (by omega) ha'
    rw [f33_l4]
    simp only [dec_t (show (n : Int) < l.length by omega), cond_true, hi, he, List.length_singleton, next64 n (by omega), dec_t lim1, List.length_append, dec_t lim2]
    cases d with
    | false =>
      by_cases h1 : e.1 > k
      · have h2 : e.1 ≠ k := by omega
        obtain ⟨d', acc', q1, q2, q3⟩ := ih true ((acc ++ [(k, v, ())]) ++ [e]) (by simp; omega)
        refine ⟨d', acc', ?_, ?_, q3⟩
        · simp only [dec_t h1, dec_t h2, Bool.not_false, cond_true]
          exact q1
        · rw [q2]; simp [putAux, h1]
      · by_cases h2 : e.1 ≠ k
        · obtain ⟨d', acc', q1, q2, q3⟩ := ih false (acc ++ [e]) (by simp; omega)
          refine ⟨d', acc', ?_, ?_, q3⟩
          · simp only [dec_f h1, dec_t h2, cond_true, cond_false]
            exact q1
          · rw [q2]; simp [putAux, h1, h2]
        · obtain ⟨d', acc', q1, q2, q3⟩ := ih false acc (by omega)
          refine ⟨d', acc', ?_, ?_, q3⟩
          · simp only [dec_f h1, dec_f h2, cond_false]
            exact q1
          · rw [q2]; simp only [putAux, if_neg h1, if_neg h2]
    | true =>
      by_cases h2 : e.1 ≠ k
      · obtain ⟨d', acc', q1, q2, q3⟩ := ih true (acc ++ [e]) (by simp; omega)
        refine ⟨d', acc', ?_, ?_, q3⟩
        · by_cases h1 : e.1 > k
          · simp only [dec_t h1, dec_t h2, Bool.not_true, cond_true, cond_false]
            exact q1
          · simp only [dec_f h1, dec_t h2, cond_true, cond_false]
            exact q1
        · rw [q2]; simp [putAux, h2]
      · obtain ⟨d', acc', q1, q2, q3⟩ := ih true acc (by omega)
        refine ⟨d', acc', ?_, ?_, q3⟩
        · by_cases h1 : e.1 > k
          · omega
          · simp only [dec_f h1, dec_f h2, cond_false]
            exact q1
        · rw [q2]; simp only [putAux, if_neg h2]

theorem f33_eq (l : List Ent) (k : Int) (v : ByteArray) (hl : l.length ≤ 1000) : f33 l k v = some (put l k v, ()) := by
  obtain ⟨d', acc', q1, q2, q3⟩ := put_loop l k v hl l 0 (l.length + 1) (decide (v = emp)) [] rfl (by omega) (by omega) (by simp)
  unfold f33
  rw [len0]
  refine bindE q1 ?_
  show (bif !d' then (bif decide (acc'.length + 1 ≤ appLim) then some (acc' ++ [(k, v, ())], ()) else none) else some (acc', ())) = _
  rw [dec_t (by unfold appLim; omega), cond_true]
  cases d' with
  | false =>
    simp only [Bool.not_false, cond_true] at q2 ⊢
    rw [q2]; rfl
  | true =>
    simp only [Bool.not_true, cond_false] at q2 ⊢
    rw [q2]; rfl

theorem mem_putAux {k : Int} {v : ByteArray} {x : Ent} : ∀ {l : List Ent} {d : Bool}, x ∈ putAux k v d l → x ∈ l ∨ (d = false ∧ x = (k, v, ()))
  | [], true, h => by simp [putAux] at h
  | [], false, h => by simp [putAux] at h; exact .inr ⟨rfl, h⟩
  | e :: r, false, h => by
    unfold putAux at h
    split at h
    · rcases List.mem_cons.1 h with h | h
      · exact .inr ⟨rfl, h⟩
      · rcases List.mem_cons.1 h with h | h
        · exact .inl (by simp [h])
        · rcases mem_putAux h with h | ⟨h, _⟩
          · exact .inl (by simp [h])
          · cases h
    · split at h
      · rcases List.mem_cons.1 h with h | h
        · exact .inl (by simp [h])
        · exact (mem_putAux h).imp (fun h => by simp [h]) id
      · exact (mem_putAux h).imp (fun h => by simp [h]) id
  | e :: r, true, h => by
    unfold putAux at h
    split at h
    · rcases List.mem_cons.1 h with h | h
      · exact .inl (by simp [h])
      · exact (mem_putAux h).imp (fun h => by simp [h]) id
    · exact (mem_putAux h).imp (fun h => by simp [h]) id

theorem asc_putAux {k : Int} {v : ByteArray} : ∀ {l : List Ent} {d : Bool}, l.Pairwise (fun a b => a.1 < b.1) → (putAux k v d l).Pairwise (fun a b => a.1 < b.1)
  | [], true, _ => by simp [putAux]
  | [], false, _ => by simp [putAux]
  | e :: r, d, h => by
    rw [List.pairwise_cons] at h
    have more : ∀ d, e.1 < k ∨ d = true → (e :: putAux k v d r).Pairwise (fun a b => a.1 < b.1) := by
      intro d hd
      rw [List.pairwise_cons]
      refine ⟨fun x hx => ?_, asc_putAux h.2⟩
      rcases mem_putAux hx with hx | ⟨hf, rfl⟩
      · exact h.1 x hx
      · rcases hd with hd | hd
        · exact hd
        · rw [hf] at hd; cases hd
    cases d with
    | false =>
      unfold putAux
      split
      · rename_i h1
        rw [List.pairwise_cons]
        refine ⟨fun x hx => ?_, more true (.inr rfl)⟩
        rcases List.mem_cons.1 hx with rfl | hx
        · exact h1
        · rcases mem_putAux hx with hx | ⟨hx, _⟩
          · have := h.1 x hx; show k < x.1; omega
          · cases hx
      · split
        · exact more false (.inl (by omega))
        · exact asc_putAux h.2
    | true =>
      unfold putAux
      split
      · exact more true (.inr rfl)
      · exact asc_putAux h.2

theorem put_valid {l : List Ent} (h : Valid l) {k : Int} {v : ByteArray} (hk : 0 ≤ k ∧ k < 64) (hv : v.size ≤ 65536) : Valid (put l k v) := by
  refine ⟨fun e he => ?_, fun e he => ?_, asc_putAux h.asc⟩
  · rcases mem_putAux he with he | ⟨_, rfl⟩
    · exact h.key e he
    · exact hk
  · rcases mem_putAux he with he | ⟨hd, rfl⟩
    · exact h.val e he
    · exact ⟨ne_emp (of_decide_eq_false hd), hv⟩

/-! ### Made -/
theorem pick_eq (c n : Int) (hc : -9223372036854775808 ≤ c ∧ c ≤ 9223372036854775807) (hn : 0 < n) : ∃ r, f36 c n = some (r, ()) ∧ f21 c n = some (r, ()) ∧ 0 ≤ r ∧ r < n := by
  by_cases h : c < 0
  · have e1 : IntKind.wrap .i64 (c + 1) = c + 1 := wrapS (by omega) (by omega)
    have e2 : IntKind.wrap .i64 (0 - (c + 1)) = 0 - (c + 1) := wrapS (by omega) (by omega)
    have hr : 0 ≤ 0 - (c + 1) := by omega
    refine ⟨Int.tmod (0 - (c + 1)) n, ?_, ?_, Int.tmod_nonneg _ hr, Int.tmod_lt_of_pos _ hn⟩
    · unfold f36; simp only [dec_t h, cond_true, e1, e2, dec_t (show n ≠ 0 by omega)]
    · unfold f21; simp only [dec_t h, cond_true, e1, e2, dec_t (show n ≠ 0 by omega)]
  · refine ⟨Int.tmod c n, ?_, ?_, Int.tmod_nonneg _ (by omega), Int.tmod_lt_of_pos _ hn⟩
    · unfold f36; simp only [dec_f h, cond_false, dec_t (show n ≠ 0 by omega), cond_true]
    · unfold f21; simp only [dec_f h, cond_false, dec_t (show n ≠ 0 by omega), cond_true]

/-- What the integers of an input keep to. -/
def PairsOk (x : List (List Int)) : Prop := ∀ p ∈ x, p.length = 2 ∧ ∀ c ∈ p, -9223372036854775808 ≤ c ∧ c ≤ 9223372036854775807

theorem valid_nil : Valid [] := ⟨(fun _ h => nomatch h), (fun _ h => nomatch h), .nil⟩

theorem made_loop (x : List (List Int)) (hx : PairsOk x) (hlen : x.length ≤ 9223372036854775807) : ∀ (j n m : Nat) (l : List Ent), j + n = 13 → n ≤ x.length → x.length - n < m → Valid l → l.length ≤ n →
    ∃ l', Valid l' ∧ f11_l3 x m l n = some ((l', ()), (), ())
  | 0, n, m, l, hj, hn, hm, hv, _ => by
    cases m with
    | zero => omega
    | succ m =>
      refine ⟨l, hv, ?_⟩
      rw [f11_l3]
      by_cases h : (n : Int) < x.length
      · rw [dec_t h, cond_true, dec_f (by omega)]; rfl
      · rw [dec_f h]; rfl
  | j + 1, n, 0, l, _, _, hm, _, _ => by omega
  | j + 1, n, m + 1, l, hj, hn, hm, hv, hln => by
    by_cases h : (n : Int) < x.length
    · by_cases h12 : (n : Int) < 12
      · have hlt : n < x.length := by omega
        obtain ⟨p, hp⟩ : ∃ p, x[n]? = some p := ⟨x[n], List.getElem?_eq_getElem hlt⟩
        have hpm := hx p (List.mem_of_getElem? hp)
        have hat : at_ (.arr 2 (.int .i64)) x (n : Int) = p := at_get (T := .arr 2 (.int .i64)) hp
        have hi : inR (n : Int) x.length = true := inR_of (by omega) h
        match p, hpm with
        | [a, b], ⟨_, hr⟩ =>
          obtain ⟨r1, k1, _, k2, k3⟩ := pick_eq a 64 (hr a (by simp)) (by omega)
          obtain ⟨r2, q1, _, q2, q3⟩ := pick_eq b 3 (hr b (by simp)) (by omega)
          have e1 : at_ (.int .i64) ([a, b] : List Int) 0 = a := rfl
          have e2 : at_ (.int .i64) ([a, b] : List Int) 1 = b := rfl
          have hvv : ∃ v : ByteArray, at_ .str ([(⟨#[97]⟩ : ByteArray), (⟨#[98, 99]⟩ : ByteArray), (⟨#[100, 32, 101, 32, 102]⟩ : ByteArray)] : List ByteArray) r2 = v ∧ v.size ≤ 65536 := by
            have : r2 = 0 ∨ r2 = 1 ∨ r2 = 2 := by omega
            rcases this with rfl | rfl | rfl
            · exact ⟨_, rfl, by show (1 : Nat) ≤ _; omega⟩
            · exact ⟨_, rfl, by show (2 : Nat) ≤ _; omega⟩
            · exact ⟨_, rfl, by show (5 : Nat) ≤ _; omega⟩
          obtain ⟨v, v1, v2⟩ := hvv
          have hput := f33_eq l r1 v (by omega)
          obtain ⟨l', z1, z2⟩ := made_loop x hx hlen j (n + 1) m (put l r1 v) (by omega) (by omega) (by omega) (put_valid hv ⟨k2, k3⟩ v2) (by
            have := putAux_len r1 v l (decide (v = emp)); unfold put; omega)
          refine ⟨l', z1, ?_⟩
          rw [f11_l3]
          simp only [dec_t h, dec_t h12, cond_true, hi, hat, e1, e2, k1, q1, Option.bind_some, inR_of (show (0 : Int) ≤ 0 by omega) (show (0 : Int) < (2 : Nat) by omega), inR_of (show (0 : Int) ≤ 1 by omega) (show (1 : Int) < (2 : Nat) by omega)]
          rw [show inR r2 ([(⟨#[97]⟩ : ByteArray), (⟨#[98, 99]⟩ : ByteArray), (⟨#[100, 32, 101, 32, 102]⟩ : ByteArray)] : List ByteArray).length = true from inR_of q2 q3]
          simp only [cond_true, v1, hput, Option.bind_some, next64 n (by omega)]
          exact z2
      · refine ⟨l, hv, ?_⟩
        rw [f11_l3, dec_t h, cond_true, dec_f h12]; rfl
    · refine ⟨l, hv, ?_⟩
      rw [f11_l3, dec_f h]; rfl

theorem f11_eq (x : List (List Int)) (hx : PairsOk x) (hlen : x.length ≤ 9223372036854775807) : ∃ l, Valid l ∧ f11 x = some (l, ()) := by
  obtain ⟨l, h1, h2⟩ := made_loop x hx hlen 13 0 (x.length + 1) [] rfl (by omega) (by omega) valid_nil (by simp)
  refine ⟨l, h1, ?_⟩
  unfold f11
  rw [len0]
  exact bindE h2 rfl

end Go.V.G
