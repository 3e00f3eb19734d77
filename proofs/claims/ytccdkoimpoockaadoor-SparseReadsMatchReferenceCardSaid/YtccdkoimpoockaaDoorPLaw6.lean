/- SparseBinding as a plain law. -/
import Derived.Test.YtccdkoimpoockaaDoorPBind
import Derived.Test.YtccdkoimpoockaaDoorPBent
import Derived.Test.YtccdkoimpoockaaDoorPC
import Derived.Test.YtccdkoimpoockaaDoorGL6
set_option linter.all false
set_option linter.unusedVariables false
set_option linter.unusedSectionVars false
set_option linter.unusedSimpArgs false
namespace Go.V.G

abbrev TO : Ty := .pair (.sl (.int .i64)) (.pair (.sl .str) (.pair (.sl .str) .unit))

def good1 (l : List Ent) (e : Ent) : Bool := decide (atK l e.1 = e.2.1)
def good2 (l : List Ent) (k : Int) : Bool := decide (atK l k = emp)

theorem present_loop (l : List Ent) (hl : l.length ≤ 1000000) (root : ByteArray) (m : List Ent) (hml : m.length ≤ 100000) (a : List Int) (L : List Opening) (c1 c2 : Int) (K : List Int) (V P : List ByteArray) : ∀ (rest : List Ent) (n k : Nat) (b : Bool), m.drop n = rest → n ≤ m.length → rest.length < k →
    f6_l17 l root m a L c1 c2 K V P k b n = some ((l, root, a, b && rest.all (good1 l), L, c1, c2, ()), (), ((K, V, P, ()), ()))
  | [], n, 0, _, _, _, hm => by simp at hm
  | [], n, k + 1, b, hd, hn, _ => by
    have : m.length ≤ n := List.drop_eq_nil_iff.1 hd
    rw [f6_l17, dec_f (by omega)]
    simp
    rfl
  | e :: rest, n, 0, _, _, _, hm => by simp at hm
  | e :: rest, n, k + 1, b, hd, hn, hm => by
    obtain ⟨hlt, hg, hd'⟩ := drop_get hd
    have he : at_ TE m (n : Int) = e := at_get (T := TE) hg
    have hi : inR (n : Int) m.length = true := inR_of (by omega) (by omega)
    simp only [List.length_cons] at hm
    have ih := fun b' => present_loop l hl root m hml a L c1 c2 K V P rest (n + 1) k b' hd' hlt (by omega)
    rw [f6_l17]
    simp only [dec_t (show (n : Int) < m.length by omega), cond_true, hi, he, f29_eq l e.1 hl, Option.bind_some, next64 n (by omega), List.all_cons]
    cases b with
    | true =>
      simp only [cond_true, Bool.true_and]
      exact ih _
    | false =>
      simp only [cond_false, Bool.false_and]
      exact ih false

theorem absent_loop (l : List Ent) (hl : l.length ≤ 1000000) (root : ByteArray) (a : List Int) (hal : a.length ≤ 100000) (L : List Opening) (c1 c2 : Int) (K : List Int) (V P : List ByteArray) : ∀ (rest : List Int) (n k : Nat) (b : Bool), a.drop n = rest → n ≤ a.length → rest.length < k →
    f6_l21 l root a L c1 c2 K V P k b n = some ((l, root, b && rest.all (good2 l), L, c1, c2, ()), (), ((K, V, P, ()), ()))
  | [], n, 0, _, _, _, hm => by simp at hm
  | [], n, k + 1, b, hd, hn, _ => by
    have : a.length ≤ n := List.drop_eq_nil_iff.1 hd
    rw [f6_l21, dec_f (by omega)]
    simp
    rfl
  | e :: rest, n, 0, _, _, _, hm => by simp at hm
  | e :: rest, n, k + 1, b, hd, hn, hm => by
    obtain ⟨hlt, hg, hd'⟩ := drop_get hd
    have he : at_ (.int .i64) a (n : Int) = e := at_get (T := .int .i64) hg
    have hi : inR (n : Int) a.length = true := inR_of (by omega) (by omega)
    simp only [List.length_cons] at hm
    have ih := fun b' => absent_loop l hl root a hal L c1 c2 K V P rest (n + 1) k b' hd' hlt (by omega)
    rw [f6_l21]
    simp only [dec_t (show (n : Int) < a.length by omega), cond_true, hi, he, f29_eq l e hl, Option.bind_some, next64 n (by omega), List.all_cons]
    cases b with
    | true =>
      simp only [cond_true, Bool.true_and]
      exact ih _
    | false =>
      simp only [cond_false, Bool.false_and]
      exact ih false

theorem bind_round {l : List Ent} (hl : Valid l) (p : Opening) (h1 : p.1.length ≤ 1000) (h2 : p.2.1.length ≤ 9223372036854775807) (h3 : p.2.2.1.length ≤ 9223372036854775807) (L : List Opening) (n k : Nat) (hg : L[n]? = some p) (hn : n < L.length) (hn2 : n ≤ 1000) :
    f6_l11 (k + 1) l (rootD l) L L.length n = f6_l11 k l (rootD l) L L.length ((n + 1 : Nat) : Int) := by
  obtain ⟨K, V, P, u⟩ := p
  simp only at h1 h2 h3
  have hll := hl.len
  have he : at_ TO L (n : Int) = (K, V, P, ()) := at_get (T := TO) hg
  have hi : inR (n : Int) L.length = true := inR_of (by omega) (by omega)
  have h23 := f23_eq (rootD l) K V P (by omega) h2 h3
  rw [f6_l11]
  simp only [dec_t (show (n : Int) < L.length by omega), cond_true, hi, he]
  refine bindE h23 ?_
  rw [stOf_eq]
  by_cases hf : formed K V P = true
  · rw [if_pos hf]
    by_cases hr : sd K (vF K V) 6 1 P = rootD l
    · rw [if_pos (congrArg some hr)]
      simp only [Bool.not_true, cond_false]
      obtain ⟨hK, hlen, hV, hP, hmn⟩ := formed_facts hf
      have hKl := hK.len
      have hVm : K.map (vF K V) = V := vF_map hK.asc hlen
      have hsl := shown_len' (vF K V) K
      rw [hVm] at hsl
      rw [len0]
      refine bindE (present_loop l (by omega) (rootD l) (prs K V) (by omega) (abs_ K V) L L.length n K V P (prs K V) 0 _ true rfl (by omega) (by omega)) ?_
      simp only [Bool.true_and]
      rw [len0]
      refine bindE (absent_loop l (by omega) (rootD l) (abs_ K V) (by omega) L L.length n K V P (abs_ K V) 0 _ ((prs K V).all (good1 l)) rfl (by omega) (by omega)) ?_
      simp only
      cases hgood : ((prs K V).all (good1 l) && (abs_ K V).all (good2 l)) with
      | true =>
        simp only [Bool.not_true, cond_false]
        rw [next64 n (by omega)]
      | false =>
        simp only [Bool.not_false, cond_true]
        refine bindE (f31_eq hl) ?_
        refine bindE (f32_eq K V P (by omega) (by omega) h3) ?_
        have ho : opened K V P = OS K (vF K V) 6 1 P [] := by unfold opened; rw [if_pos hf]
        have hol := OS_len K (vF K V) 6 1 P []
        have hol2 : (OS K (vF K V) 6 1 P []).length ≤ 1000 := by
          have : 2 ^ (6 + 1) = 128 := rfl
          simp at hol; omega
        simp only [ho]
        obtain ⟨r, q1, q2⟩ := f30_eq (hashed l) (OS K (vF K V) 6 1 P []) (by have := hashed_len l; omega) (by omega) (hashed_size hl) (OS_size (K := K) (vF_size hV) 6 1 P [] hP (fun s hs => (nomatch hs)))
        refine bindE q1 ?_
        rcases q2 with rfl | hc
        · simp only [Bool.not_true, cond_false]
          rw [next64 n (by omega)]
        · exfalso
          have hb := bind_root hl hf hr hc
          have g1 : (prs K V).all (good1 l) = true := by
            rw [List.all_eq_true]
            intro e hee
            rw [← hVm] at hee
            obtain ⟨a1, a2⟩ := prs_vals (vF K V) K e hee
            unfold good1
            rw [hb e.1 a1, a2]
            exact decide_eq_true rfl
          have g2 : (abs_ K V).all (good2 l) = true := by
            rw [List.all_eq_true]
            intro x hx
            rw [← hVm] at hx
            obtain ⟨a1, a2⟩ := abs_vals (vF K V) K x hx
            unfold good2
            rw [hb x a1, a2]
            exact decide_eq_true rfl
          rw [g1, g2] at hgood
          cases hgood
    · rw [if_neg (fun h => hr (Option.some.inj h))]
      simp only [Bool.not_false, cond_true]
      rw [next64 n (by omega)]
  · rw [if_neg hf, if_neg (by simp)]
    simp only [Bool.not_false, cond_true]
    rw [next64 n (by omega)]

theorem f6_true (x y : List (List Int)) (s : List Int) (raw : Opening) (a b c d e f : Int) (hx : PairsOk x) (hxl : x.length ≤ 9223372036854775807) (hy : PairsOk y) (hyl : y.length ≤ 9223372036854775807)
    (hs : ∀ c ∈ s, -9223372036854775808 ≤ c ∧ c ≤ 9223372036854775807) (hsl : s.length ≤ 9223372036854775807) (hr1 : raw.1.length ≤ 9223372036854775807) (hr2 : raw.2.1.length ≤ 9223372036854775807) (hr3 : raw.2.2.1.length ≤ 9223372036854775807)
    (ha : -9223372036854775808 ≤ a ∧ a ≤ 9223372036854775807) (hb : -9223372036854775808 ≤ b ∧ b ≤ 9223372036854775807) (hc : -9223372036854775808 ≤ c ∧ c ≤ 9223372036854775807)
    (hd : -9223372036854775808 ≤ d ∧ d ≤ 9223372036854775807) (he : -9223372036854775808 ≤ e ∧ e ≤ 9223372036854775807) (hf : -9223372036854775808 ≤ f ∧ f ≤ 9223372036854775807) : f6 x y s raw [[a, b, c], [d, e, f]] = some (true, ()) := by
  obtain ⟨l, hl, e1⟩ := f11_eq x hx hxl
  obtain ⟨l2, hl2, e2⟩ := f11_eq y hy hyl
  obtain ⟨K, hK, e3⟩ := f17_eq hl s hs hsl
  have o1 := opn_ok hl hK
  have o2 := opn_ok hl2 hK
  obtain ⟨b1, f1, k1⟩ := bent_ok o1 ha hb hc
  obtain ⟨b2, f2, k2⟩ := bent_ok k1 hd he hf
  obtain ⟨b3, f3, k3⟩ := bent_ok o2 ha hb hc
  have j0 : inR (0 : Int) 2 = true := by kernel_rfl
  have j1 : inR (1 : Int) 2 = true := by kernel_rfl
  have g0 : at_ (.arr 3 (.int .i64)) ([[a, b, c], [d, e, f]] : List (List Int)) 0 = [a, b, c] := rfl
  have g1 : at_ (.arr 3 (.int .i64)) ([[a, b, c], [d, e, f]] : List (List Int)) 1 = [d, e, f] := rfl
  have hcut : cutOk raw.1.length none (some (if (8 : Int) < (raw.1.length : Int) then (8 : Int) else (raw.1.length : Int))) = true := by
    unfold cutOk
    simp
    split <;> omega
  unfold f6
  refine bindE sane_eq ?_
  simp only [Bool.not_true, cond_false]
  refine bindE e1 ?_
  refine bindE (f13_eq hl) ?_
  refine bindE e3 ?_
  refine bindE (f18_eq hl hK) ?_
  refine bindE e2 ?_
  refine bindE e3 ?_
  refine bindE (f18_eq hl2 hK) ?_
  simp only [dec_f (show ¬ (0 : Int) ≠ 0 by omega), cond_false, hcut, cond_true, j0, j1, g0, g1]
  refine bindE f1 ?_
  refine bindE f1 ?_
  refine bindE f2 ?_
  refine bindE f3 ?_
  simp only
  have hr8 : (raw.1.take (Int.toNat (if (8 : Int) < (raw.1.length : Int) then (8 : Int) else (raw.1.length : Int)))).length ≤ 1000 := by
    rw [List.length_take]
    split <;> omega
  generalize raw.1.take (Int.toNat (if (8 : Int) < (raw.1.length : Int) then (8 : Int) else (raw.1.length : Int))) = RK at hr8 ⊢
  have rnd := fun (p : Opening) (q1 : p.1.length ≤ 1000) (q2 : p.2.1.length ≤ 9223372036854775807) (q3 : p.2.2.1.length ≤ 9223372036854775807) (n k : Nat) (hg : ([b1, b2, opn l2 K, b3, (RK, raw.2)] : List Opening)[n]? = some p) (hn : n < 5) => bind_round hl p q1 q2 q3 [b1, b2, opn l2 K, b3, (RK, raw.2)] n k hg hn (by omega)
  have kk : ∀ {o : Opening}, OpOk o → o.1.length ≤ 1000 ∧ o.2.1.length ≤ 9223372036854775807 ∧ o.2.2.1.length ≤ 9223372036854775807 := fun {o} h => ⟨by have := h.kl; omega, by have := h.kl; have := h.vk; omega, by have := h.pl; omega⟩
  have s0 := rnd b1 (kk k1).1 (kk k1).2.1 (kk k1).2.2 0 5 rfl (by omega)
  have s1 := rnd b2 (kk k2).1 (kk k2).2.1 (kk k2).2.2 1 4 rfl (by omega)
  have s2 := rnd (opn l2 K) (kk o2).1 (kk o2).2.1 (kk o2).2.2 2 3 rfl (by omega)
  have s3 := rnd b3 (kk k3).1 (kk k3).2.1 (kk k3).2.2 3 2 rfl (by omega)
  have s4 := rnd (RK, raw.2) hr8 hr2 hr3 4 1 rfl (by omega)
  have loop : f6_l11 6 l (rootD l) [b1, b2, opn l2 K, b3, (RK, raw.2)] (([b1, b2, opn l2 K, b3, (RK, raw.2)] : List Opening).length : Int) ((0 : Nat) : Int) = some (.inl ((), (), ())) :=
    s0.trans (s1.trans (s2.trans (s3.trans (s4.trans rfl))))
  exact bindE loop rfl

theorem lenOk {α : Type} {l : List α} (h : l.length ≤ maxLen) : l.length ≤ 9223372036854775807 := Nat.le_trans h (Nat.le_of_ble_eq_true (by kernel_rfl))

theorem three_of {p : List Int} (h : Ty.ok (.arr 3 (.int .i64)) p) : ∃ a b c, p = [a, b, c] ∧ (-9223372036854775808 ≤ a ∧ a ≤ 9223372036854775807) ∧ (-9223372036854775808 ≤ b ∧ b ≤ 9223372036854775807) ∧ (-9223372036854775808 ≤ c ∧ c ≤ 9223372036854775807) := by
  obtain ⟨h1, h2⟩ := h
  match p, h1 with
  | [a, b, c], _ => exact ⟨a, b, c, rfl, intOk (h2 a (by simp)), intOk (h2 b (by simp)), intOk (h2 c (by simp))⟩

theorem two_three_of {p : List (List Int)} (h : Ty.ok (.arr 2 (.arr 3 (.int .i64))) p) : ∃ u v, p = [u, v] ∧ Ty.ok (.arr 3 (.int .i64)) u ∧ Ty.ok (.arr 3 (.int .i64)) v := by
  obtain ⟨h1, h2⟩ := h
  match p, h1 with
  | [u, v], _ => exact ⟨u, v, rfl, h2 u (by simp), h2 v (by simp)⟩

theorem f6_all (x : tysDen f6_spec.args) (h : tysOk f6_spec.args x) : f6_spec.fn x = some (true, ()) := by
  obtain ⟨x1, x2, x3, x4, x5, x6⟩ := x
  obtain ⟨h1, h2, h3, h4, h5, _⟩ := h
  obtain ⟨p1, p2⟩ := pairsOk_of h1
  obtain ⟨p3, p4⟩ := pairsOk_of h2
  obtain ⟨p5, p6⟩ := intsOk_of h3
  obtain ⟨u, v, rfl, hu, hv⟩ := two_three_of h5
  obtain ⟨a, b, c, rfl, ha, hb, hc⟩ := three_of hu
  obtain ⟨d, e, f, rfl, hd, he, hf⟩ := three_of hv
  exact f6_true _ _ _ _ _ _ _ _ _ _ p1 p2 p3 p4 p5 p6 (lenOk h4.1.1) (lenOk h4.2.1.1) (lenOk h4.2.2.1.1) ha hb hc hd he hf

end Go.V.G
