/- SparseOrder as a plain law. -/
import Derived.Test.YtccdkoimpoockaaDoorPC
import Derived.Test.YtccdkoimpoockaaDoorPLaw7
import Derived.Test.YtccdkoimpoockaaDoorGL9
set_option linter.all false
set_option linter.unusedVariables false
set_option linter.unusedSectionVars false
set_option linter.unusedSimpArgs false
namespace Go.V.G

theorem vals3 (r : Int) (h0 : 0 ≤ r) (h3 : r < 3) : inR r ([(⟨#[]⟩ : ByteArray), (⟨#[113]⟩ : ByteArray), (⟨#[114, 115]⟩ : ByteArray)] : List ByteArray).length = true ∧ ∃ v : ByteArray, at_ .str ([(⟨#[]⟩ : ByteArray), (⟨#[113]⟩ : ByteArray), (⟨#[114, 115]⟩ : ByteArray)] : List ByteArray) r = v ∧ v.size ≤ 65536 := by
  refine ⟨inR_of h0 h3, ?_⟩
  have : r = 0 ∨ r = 1 ∨ r = 2 := by omega
  rcases this with rfl | rfl | rfl
  · exact ⟨_, rfl, by show (0 : Nat) ≤ _; omega⟩
  · exact ⟨_, rfl, by show (1 : Nat) ≤ _; omega⟩
  · exact ⟨_, rfl, by show (2 : Nat) ≤ _; omega⟩

theorem keysOk_two {a b : Int} (ha : 0 ≤ a) (hab : a < b) (hb : b < 64) : KeysOk [a, b] :=
  ⟨fun k hk => by simp at hk; omega, by simp; exact hab⟩
theorem keysOk_one {a : Int} (ha : 0 ≤ a) (hb : a < 64) : KeysOk [a] :=
  ⟨fun k hk => by simp at hk; omega, by simp⟩

/-- All that is asked of two keys. -/
theorem two_keys {l : List Ent} (hl : Valid l) {a b : Int} (ha : 0 ≤ a ∧ a < 64) (hb : 0 ≤ b ∧ b < 64) (hab : a ≠ b) {v w : ByteArray} (hv : v.size ≤ 65536) (hw : w.size ≤ 65536) {K : List Int} (hK : KeysOk K) (hmem : ∀ k, k ∈ K ↔ (k = a ∨ k = b))
    {both : List Ent} (hboth : both = [(a, v, ()), (b, w, ())] ∧ a < b ∨ both = [(b, w, ()), (a, v, ())] ∧ b < a) :
    ∃ m : List Ent, f27 (rootD l) (opn l K) both = some (rootD m, true, ()) ∧
      f27 (rootD l) (opn l K) [(a, v, ())] = some (rootD (put l a v), true, ()) ∧
      f27 (rootD l) (opn l K) [(b, w, ())] = some (rootD (put l b w), true, ()) ∧
      f33 l a v = some (put l a v, ()) ∧ f33 l b w = some (put l b w, ()) ∧
      f18 (put l a v) [b] = some (opn (put l a v) [b], 0, ()) ∧ f18 (put l b w) [a] = some (opn (put l b w) [a], 0, ()) ∧
      f27 (rootD (put l a v)) (opn (put l a v) [b]) [(b, w, ())] = some (rootD m, true, ()) ∧
      f27 (rootD (put l b w)) (opn (put l b w) [a]) [(a, v, ())] = some (rootD m, true, ()) := by
  have hla := put_valid hl ha hv
  have hlb := put_valid hl hb hw
  have hm := put_valid hla hb hw
  have hm2 := put_valid hlb ha hv
  have hll := hl.len
  have at1 : ∀ k, atK (put (put l a v) b w) k = if k = b then w else if k = a then v else atK l k := fun k => by rw [atK_put hla, atK_put hl]
  have at2 : ∀ k, atK (put (put l b w) a v) k = if k = b then w else if k = a then v else atK l k := fun k => by
    rw [atK_put hlb, atK_put hl]
    by_cases h1 : k = a
    · rw [if_pos h1, if_neg (by omega), if_pos h1]
    · rw [if_neg h1]
      by_cases h2 : k = b
      · rw [if_pos h2, if_pos h2]
      · rw [if_neg h2, if_neg h2, if_neg h1]
  have same : rootD (put (put l b w) a v) = rootD (put (put l a v) b w) := rootD_congr fun k => by rw [at1, at2]
  have hKa : a ∈ K := (hmem a).2 (.inl rfl)
  have hKb : b ∈ K := (hmem b).2 (.inr rfl)
  refine ⟨put (put l a v) b w, ?_, ?_, ?_, f33_eq l a v (by omega), f33_eq l b w (by omega), f18_eq hla (keysOk_one hb.1 hb.2), f18_eq hlb (keysOk_one ha.1 ha.2), ?_, ?_⟩
  · rcases hboth with ⟨rfl, h⟩ | ⟨rfl, h⟩
    · refine upd_opn hl hK hm (chOk_of (keysOk_two ha.1 h hb.2) (fun c hc => by simp at hc; rcases hc with rfl | rfl; exact hKa; exact hKb)) (fun k _ => ?_) (fun k hk => ?_) (by simp)
      · rw [at1]; rfl
      · rw [at1, if_neg (fun h : k = b => hk (h ▸ hKb)), if_neg (fun h : k = a => hk (h ▸ hKa))]
    · refine upd_opn hl hK hm (chOk_of (keysOk_two hb.1 h ha.2) (fun c hc => by simp at hc; rcases hc with rfl | rfl; exact hKb; exact hKa)) (fun k _ => ?_) (fun k hk => ?_) (by simp)
      · rw [← at2 k |>.trans (at1 k).symm, atK_put hlb, atK_put hl]; rfl
      · rw [at1, if_neg (fun h : k = b => hk (h ▸ hKb)), if_neg (fun h : k = a => hk (h ▸ hKa))]
  · refine upd_opn hl hK hla (chOk_of (keysOk_one ha.1 ha.2) (fun c hc => by simp at hc; rcases hc with rfl; exact hKa)) (fun k _ => ?_) (fun k hk => ?_) (by simp)
    · rw [atK_put hl]; rfl
    · rw [atK_put hl, if_neg (fun h : k = a => hk (h ▸ hKa))]
  · refine upd_opn hl hK hlb (chOk_of (keysOk_one hb.1 hb.2) (fun c hc => by simp at hc; rcases hc with rfl; exact hKb)) (fun k _ => ?_) (fun k hk => ?_) (by simp)
    · rw [atK_put hl]; rfl
    · rw [atK_put hl, if_neg (fun h : k = b => hk (h ▸ hKb))]
  · refine upd_opn hla (keysOk_one hb.1 hb.2) hm (chOk_of (keysOk_one hb.1 hb.2) (fun c hc => by simp at hc; rcases hc with rfl; simp)) (fun k _ => ?_) (fun k hk => ?_) (by simp)
    · rw [atK_put hla]; rfl
    · rw [atK_put hla, if_neg (fun h => hk (by simp [h]))]
  · rw [← same]
    refine upd_opn hlb (keysOk_one ha.1 ha.2) hm2 (chOk_of (keysOk_one ha.1 ha.2) (fun c hc => by simp at hc; rcases hc with rfl; simp)) (fun k _ => ?_) (fun k hk => ?_) (by simp)
    · rw [atK_put hlb]; rfl
    · rw [atK_put hlb, if_neg (fun h => hk (by simp [h]))]

theorem minmax {a b : Int} (ha : 0 ≤ a ∧ a < 64) (hb : 0 ≤ b ∧ b < 64) (hab : a ≠ b) : KeysOk [(if b < a then b else a), (if b > a then b else a)] ∧ ∀ k, k ∈ [(if b < a then b else a), (if b > a then b else a)] ↔ (k = a ∨ k = b) := by
  by_cases h : b < a
  · rw [if_pos h, if_neg (by omega)]
    exact ⟨keysOk_two hb.1 h ha.2, fun k => by simp; omega⟩
  · rw [if_neg h, if_pos (by omega)]
    exact ⟨keysOk_two ha.1 (by omega) hb.2, fun k => by simp⟩

theorem f9_true (x : List (List Int)) (k1 k2 c1 c2 : Int) (hx : PairsOk x) (hxl : x.length ≤ 9223372036854775807) (h1 : -9223372036854775808 ≤ k1 ∧ k1 ≤ 9223372036854775807) (h2 : -9223372036854775808 ≤ k2 ∧ k2 ≤ 9223372036854775807)
    (h3 : -9223372036854775808 ≤ c1 ∧ c1 ≤ 9223372036854775807) (h4 : -9223372036854775808 ≤ c2 ∧ c2 ≤ 9223372036854775807) : f9 x [k1, k2] [c1, c2] = some (true, ()) := by
  obtain ⟨l, hl, e1⟩ := f11_eq x hx hxl
  obtain ⟨a, _, e2, a1, a2⟩ := pick_eq k1 64 h1 (by omega)
  obtain ⟨b, _, e3, b1, b2⟩ := pick_eq k2 64 h2 (by omega)
  obtain ⟨r, _, e4, r1, r2⟩ := pick_eq c1 3 h3 (by omega)
  obtain ⟨s, _, e5, s1, s2⟩ := pick_eq c2 3 h4 (by omega)
  obtain ⟨i1, v, v1, v2⟩ := vals3 r r1 r2
  obtain ⟨i2, w, w1, w2⟩ := vals3 s s1 s2
  have g1 : at_ (.int .i64) ([k1, k2] : List Int) 0 = k1 := rfl
  have g2 : at_ (.int .i64) ([k1, k2] : List Int) 1 = k2 := rfl
  have g3 : at_ (.int .i64) ([c1, c2] : List Int) 0 = c1 := rfl
  have g4 : at_ (.int .i64) ([c1, c2] : List Int) 1 = c2 := rfl
  have j0 : inR (0 : Int) 2 = true := by kernel_rfl
  have j1 : inR (1 : Int) 2 = true := by kernel_rfl
  unfold f9
  refine bindE sane_eq ?_
  simp only [Bool.not_true, cond_false]
  refine bindE e1 ?_
  simp only [j0, j1, cond_true, g1, g2, g3, g4]
  refine bindE e2 ?_
  refine bindE e3 ?_
  simp only
  by_cases hab : a = b
  · rw [dec_t hab]; rfl
  · rw [dec_f hab, cond_false]
    refine bindE e4 ?_
    simp only [i1, cond_true, v1]
    refine bindE e5 ?_
    simp only [i2, cond_true, w1]
    obtain ⟨hK, hmem⟩ := minmax ⟨a1, a2⟩ ⟨b1, b2⟩ hab
    by_cases hgt : a > b
    · rw [dec_t hgt, cond_true]
      obtain ⟨m, q1, q2, q3, q4, q5, q6, q7, q8, q9⟩ := two_keys hl ⟨a1, a2⟩ ⟨b1, b2⟩ hab v2 w2 hK hmem (both := [(b, w, ()), (a, v, ())]) (.inr ⟨rfl, hgt⟩)
      refine bindE (f13_eq hl) ?_
      refine bindE (f18_eq hl hK) ?_
      refine bindE q1 ?_
      refine bindE q2 ?_
      refine bindE q3 ?_
      refine bindE q4 ?_
      refine bindE q6 ?_
      refine bindE q5 ?_
      refine bindE q7 ?_
      refine bindE q8 ?_
      refine bindE q9 ?_
      simp
    · rw [dec_f hgt, cond_false]
      obtain ⟨m, q1, q2, q3, q4, q5, q6, q7, q8, q9⟩ := two_keys hl ⟨a1, a2⟩ ⟨b1, b2⟩ hab v2 w2 hK hmem (both := [(a, v, ()), (b, w, ())]) (.inl ⟨rfl, by omega⟩)
      refine bindE (f13_eq hl) ?_
      refine bindE (f18_eq hl hK) ?_
      refine bindE q1 ?_
      refine bindE q2 ?_
      refine bindE q3 ?_
      refine bindE q4 ?_
      refine bindE q6 ?_
      refine bindE q5 ?_
      refine bindE q7 ?_
      refine bindE q8 ?_
      refine bindE q9 ?_
      simp

theorem f9_all (x : tysDen f9_spec.args) (h : tysOk f9_spec.args x) : f9_spec.fn x = some (true, ()) := by
  obtain ⟨x1, x2, x3, x4⟩ := x
  obtain ⟨h1, h2, h3, _⟩ := h
  obtain ⟨p1, p2⟩ := pairsOk_of h1
  match x2, h2, x3, h3 with
  | [k1, k2], h2, [c1, c2], h3 =>
    exact f9_true _ _ _ _ _ p1 p2 (intOk (h2.2 k1 (by simp))) (intOk (h2.2 k2 (by simp))) (intOk (h3.2 c1 (by simp))) (intOk (h3.2 c2 (by simp)))

end Go.V.G
