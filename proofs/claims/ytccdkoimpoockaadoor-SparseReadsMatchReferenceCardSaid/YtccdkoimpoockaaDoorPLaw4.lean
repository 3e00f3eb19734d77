/- SparseReadsMatchReference as a plain law. -/
import Derived.Test.YtccdkoimpoockaaDoorPBind
import Derived.Test.YtccdkoimpoockaaDoorPLaw6
import Derived.Test.YtccdkoimpoockaaDoorPLaw9
import Derived.Test.YtccdkoimpoockaaDoorGL4
set_option linter.all false
set_option linter.unusedVariables false
set_option linter.unusedSectionVars false
set_option linter.unusedSimpArgs false
namespace Go.V.G

/-- Changes with short values, of which there are few. -/
structure Few (l : List Ent) : Prop where
  len : l.length ≤ 64
  val : ∀ e ∈ l, e.2.1.size ≤ 65536

theorem cut20 (s : ByteArray) : (cutS s none (some (if (20 : Int) < (s.size : Int) then (20 : Int) else (s.size : Int)))).size ≤ 65536 := by
  unfold cutS
  rw [ByteArray.size_extract]
  unfold cutHi
  simp only [Option.getD_none]
  split <;> simp <;> omega

theorem few_loop' (x : List Ent) (hx : ∀ e ∈ x, e.2.1.size ≤ 9223372036854775807) : ∀ (j n m : Nat) (acc : List Ent), j + n = 8 → n ≤ x.length → x.length - n < m → acc.length ≤ n → (∀ e ∈ acc, e.2.1.size ≤ 65536) →
    ∃ l, Few l ∧ f12_l3 x m n acc = some ((), (), (l, ()))
  | j, n, 0, _, _, _, hm, _, _ => by omega
  | 0, n, m + 1, acc, hj, hn, hm, ha, hv => by
    refine ⟨acc, ⟨by omega, hv⟩, ?_⟩
    rw [f12_l3]
    by_cases h : (n : Int) < x.length
    · rw [dec_t h, cond_true, dec_f (by omega)]; rfl
    · rw [dec_f h]; rfl
  | j + 1, n, m + 1, acc, hj, hn, hm, ha, hv => by
    by_cases h : (n : Int) < x.length
    · have h8 : (n : Int) < 8 := by omega
      have hlt : n < x.length := by omega
      obtain ⟨e, he⟩ : ∃ e, x[n]? = some e := ⟨x[n], List.getElem?_eq_getElem hlt⟩
      have hes := hx e (List.mem_of_getElem? he)
      have hat : at_ TE x (n : Int) = e := at_get (T := TE) he
      have hi : inR (n : Int) x.length = true := inR_of (by omega) h
      obtain ⟨l, z1, z2⟩ := few_loop' x hx j (n + 1) m (acc ++ [(e.1, cutS e.2.1 none (some (if (20 : Int) < (e.2.1.size : Int) then (20 : Int) else (e.2.1.size : Int))), ())]) (by omega) (by omega) (by omega) (by simp; omega) (fun y hy => by
        rcases List.mem_append.1 hy with hy | hy
        · exact hv y hy
        · rw [List.mem_singleton.1 hy]; exact cut20 _)
      refine ⟨l, z1, ?_⟩
      have hcut : cutOk e.2.1.size none (some (if (20 : Int) < (e.2.1.size : Int) then (20 : Int) else (e.2.1.size : Int))) = true := by
        unfold cutOk
        simp
        split <;> omega
      rw [f12_l3]
      simp only [dec_t h, dec_t h8, cond_true, hi, hat, hcut, List.length_singleton, dec_t (show acc.length + 1 ≤ appLim by unfold appLim; omega), next64 n (by omega)]
      exact z2
    · refine ⟨acc, ⟨by omega, hv⟩, ?_⟩
      rw [f12_l3, dec_f h]; rfl

theorem f12_few (x : List Ent) (hx : ∀ e ∈ x, e.2.1.size ≤ 9223372036854775807) : ∃ l, Few l ∧ f12 x = some (l, ()) := by
  obtain ⟨l, h1, h2⟩ := few_loop' x hx 8 0 (x.length + 1) [] (by omega) (by omega) (by omega) (by simp) (fun _ h => (nomatch h))
  refine ⟨l, h1, ?_⟩
  unfold f12
  rw [len0]
  exact bindE h2 rfl

theorem own_loop (chg : List Ent) (y : List Int) (hy : ∀ c ∈ y, -9223372036854775808 ≤ c ∧ c ≤ 9223372036854775807) (root : ByteArray) (rk : List Int) (rv rp : List ByteArray) (how : List (List Int)) (K : List Int) (hKl : K.length ≤ 64) (V P : List ByteArray) :
    ∀ (j n fuel : Nat) (acc : List Ent), n + j = K.length → j < fuel → acc.length = n → (∀ e ∈ acc, e.2.1.size ≤ 65536) →
      ∃ l, Few l ∧ f4_l13 chg y root rk rv rp how K V P fuel n acc = some ((chg, root, ()), (), ((rk, rv, rp, ()), (how, ()), (K, V, P, ()), l, ()))
  | _, n, 0, _, _, hf, _, _ => by omega
  | 0, n, fuel + 1, acc, hn, _, hal, hv => by
    refine ⟨acc, ⟨by omega, hv⟩, ?_⟩
    rw [f4_l13, dec_f (by omega)]
    rfl
  | j + 1, n, fuel + 1, acc, hn, hf, hal, hv => by
    by_cases hny : (n : Int) < y.length
    · have hlt : n < K.length := by omega
      obtain ⟨c, hc⟩ : ∃ c, y[n]? = some c := ⟨y[n], List.getElem?_eq_getElem (by omega)⟩
      have hcr := hy c (List.mem_of_getElem? hc)
      have hcat : at_ (.int .i64) y (n : Int) = c := at_get (T := .int .i64) hc
      obtain ⟨x, hx⟩ : ∃ x, K[n]? = some x := ⟨K[n], List.getElem?_eq_getElem hlt⟩
      have hxat : at_ (.int .i64) K (n : Int) = x := at_get (T := .int .i64) hx
      have hin : inR (n : Int) K.length = true := inR_of (by omega) (by omega)
      obtain ⟨r, _, e4, r1, r2⟩ := pick_eq c 3 hcr (by omega)
      obtain ⟨i1, v, v1, v2⟩ := vals3 r r1 r2
      obtain ⟨l, g1, g2⟩ := own_loop chg y hy root rk rv rp how K hKl V P j (n + 1) fuel (acc ++ [(x, v, ())]) (by omega) (by omega) (by simp [hal]) (fun e he => by
        rcases List.mem_append.1 he with he | he
        · exact hv e he
        · rw [List.mem_singleton.1 he]; exact v2)
      refine ⟨l, g1, ?_⟩
      rw [f4_l13]
      simp only [dec_t (show (n : Int) < K.length by omega), dec_t hny, cond_true, inR_of (show (0 : Int) ≤ n by omega) hny, hcat, e4, Option.bind_some, i1, v1, hin, hxat, List.length_singleton, dec_t (show acc.length + 1 ≤ appLim by unfold appLim; omega), next64 n (by omega)]
      exact g2
    · refine ⟨acc, ⟨by omega, hv⟩, ?_⟩
      rw [f4_l13, dec_t (by omega), cond_true, dec_f hny]
      rfl

theorem prs_len : ∀ (K : List Int) (V : List ByteArray), (prs K V).length ≤ K.length
  | [], _ => by simp [prs]
  | _ :: _, [] => by simp [prs]
  | k :: K, v :: V => by
    have := prs_len K V
    unfold prs
    split
    · simp only [List.length_cons]; omega
    · simp only [List.length_cons]; omega
theorem abs_len : ∀ (K : List Int) (V : List ByteArray), (abs_ K V).length ≤ K.length
  | [], _ => by simp [abs_]
  | _ :: _, [] => by simp [abs_]
  | k :: K, v :: V => by
    have := abs_len K V
    unfold abs_
    split
    · simp only [List.length_cons]; omega
    · simp only [List.length_cons]; omega

theorem upd_round (chg : List Ent) (root : ByteArray) (own : List Ent) (L : List Opening) (c1 c2 : Int) (m1 m2 : List Ent) (b1 b2 : Bool) (a1 a2 : List Int) (b3 b4 : Bool) (MM : List (List Ent)) (K : List Int) (V P : List ByteArray) (hK : K.length ≤ 1000) (hV : V.length ≤ 1000) (hP : P.length ≤ 1000)
    (m : List Ent) (hm : Few m) (n k : Nat) (hg : MM[n]? = some m) (hn : n < MM.length) (hn2 : n ≤ 1000) :
    f4_l24 chg root own L c1 c2 m1 m2 b1 b2 a1 a2 b3 b4 MM MM.length K V P (k + 1) n = f4_l24 chg root own L c1 c2 m1 m2 b1 b2 a1 a2 b3 b4 MM MM.length K V P k ((n + 1 : Nat) : Int) := by
  have he : at_ (.sl TE) MM (n : Int) = m := at_get (T := .sl TE) hg
  have hi : inR (n : Int) MM.length = true := inR_of (by omega) (by omega)
  have hml := hm.len
  have h27 := f27_res root K V P m (by omega) (by omega) (by omega) (by omega) hm.val
  have h28 := f28_res root K V P m (by omega) (by omega) (by omega) (by omega) hm.val
  rw [f4_l24]
  simp only [dec_t (show (n : Int) < MM.length by omega), cond_true, hi, he]
  refine bindE h27 ?_
  refine bindE h28 ?_
  simp only [decide_true, Bool.not_true, cond_false]
  rw [next64 n (by omega)]

theorem read_round (chg : List Ent) (hchg : ∀ e ∈ chg, e.2.1.size ≤ 9223372036854775807) (root : ByteArray) (own : List Ent) (hown : Few own) (p : Opening) (h1 : p.1.length ≤ 1000) (h2 : p.2.1.length ≤ 1000) (h3 : p.2.2.1.length ≤ 1000) (L : List Opening) (n k : Nat) (hg : L[n]? = some p) (hn : n < L.length) (hn2 : n ≤ 1000) :
    f4_l17 (k + 1) chg root own L L.length n = f4_l17 k chg root own L L.length ((n + 1 : Nat) : Int) := by
  obtain ⟨K, V, P, u⟩ := p
  simp only at h1 h2 h3
  have he : at_ TO L (n : Int) = (K, V, P, ()) := at_get (T := TO) hg
  have hi : inR (n : Int) L.length = true := inR_of (by omega) (by omega)
  obtain ⟨fw, hfw, e12⟩ := f12_few chg hchg
  have same : ∃ (m : List Ent) (a : List Int) (b : Bool), f23 root (K, V, P, ()) = some (m, a, b, ()) ∧ f24 root (K, V, P, ()) = some (m, a, b, ()) ∧ m.length ≤ 1000 ∧ a.length ≤ 1000 := by
    rw [f23_eq root K V P (by omega) (by omega) (by omega), f24_eq root K V P (by omega) (by omega) (by omega)]
    by_cases h : stOf K V P = some root
    · rw [if_pos h]
      exact ⟨_, _, _, rfl, rfl, by have := prs_len K V; omega, by have := abs_len K V; omega⟩
    · rw [if_neg h]
      exact ⟨_, _, _, rfl, rfl, Nat.zero_le _, Nat.zero_le _⟩
  obtain ⟨m, a, b, e1, e2, ml, al⟩ := same
  have e25 : f25 m m = some (true, ()) := by rw [f25_eq m m (by omega)]; simp
  rw [f4_l17]
  simp only [dec_t (show (n : Int) < L.length by omega), cond_true, hi, he]
  refine bindE e1 ?_
  refine bindE e2 ?_
  simp only [decide_true, Bool.not_true, cond_false]
  refine bindE e25 ?_
  simp only [Bool.not_true, cond_false]
  refine bindE (f26_self a (by omega)) ?_
  simp only [Bool.not_true, cond_false]
  refine bindE e12 ?_
  have r1 := upd_round chg root own L L.length n m m true false a a true false [fw, own] K V P h1 h2 h3 fw hfw 0 2 rfl (by simp) (by omega)
  have r2 := upd_round chg root own L L.length n m m true false a a true false [fw, own] K V P h1 h2 h3 own hown 1 1 rfl (by simp) (by omega)
  have r3 : f4_l24 chg root own L L.length n m m true false a a true false [fw, own] ([fw, own] : List (List Ent)).length K V P 1 ((1 + 1 : Nat) : Int) = some (.inl ((chg, root, own, L, (L.length : Int), (n : Int), m, m, true, false, a, a, true, false, ()), (), ())) := rfl
  refine bindE (r1.trans (r2.trans r3)) ?_
  simp only [Sum.elim_inl]
  rw [next64 n (by omega)]

theorem f4_true (x : List (List Int)) (s : List Int) (raw : Opening) (a b c d e f : Int) (chg : List Ent) (y : List Int) (hx : PairsOk x) (hxl : x.length ≤ 9223372036854775807)
    (hs : ∀ c ∈ s, -9223372036854775808 ≤ c ∧ c ≤ 9223372036854775807) (hsl : s.length ≤ 9223372036854775807) (hr1 : raw.1.length ≤ 9223372036854775807) (hr2 : raw.2.1.length ≤ 9223372036854775807) (hr3 : raw.2.2.1.length ≤ 9223372036854775807)
    (ha : -9223372036854775808 ≤ a ∧ a ≤ 9223372036854775807) (hb : -9223372036854775808 ≤ b ∧ b ≤ 9223372036854775807) (hc : -9223372036854775808 ≤ c ∧ c ≤ 9223372036854775807)
    (hd : -9223372036854775808 ≤ d ∧ d ≤ 9223372036854775807) (he : -9223372036854775808 ≤ e ∧ e ≤ 9223372036854775807) (hf : -9223372036854775808 ≤ f ∧ f ≤ 9223372036854775807)
    (hchg : ∀ e ∈ chg, e.2.1.size ≤ 9223372036854775807) (hy : ∀ c ∈ y, -9223372036854775808 ≤ c ∧ c ≤ 9223372036854775807) : f4 x s raw [[a, b, c], [d, e, f]] chg y = some (true, ()) := by
  obtain ⟨l, hl, e1⟩ := f11_eq x hx hxl
  obtain ⟨K, hK, e3⟩ := f17_eq hl s hs hsl
  have hKl := hK.len
  have hll := hl.len
  have o1 := opn_ok hl hK
  obtain ⟨b1, f1, k1⟩ := bent_ok o1 ha hb hc
  obtain ⟨b2, f2, k2⟩ := bent_ok k1 hd he hf
  have e14 : f14 l = some (rootD l, 0, ()) := by rw [f14_eq l (by omega), if_pos (validB_iff.2 hl)]
  have e19 : f19 l K = some (opn l K, 0, ()) := by rw [f19_eq l K (by omega) (by omega), validB_iff.2 hl, keysB_none.2 hK]; rfl
  have j0 : inR (0 : Int) 2 = true := by kernel_rfl
  have j1 : inR (1 : Int) 2 = true := by kernel_rfl
  have g0 : at_ (.arr 3 (.int .i64)) ([[a, b, c], [d, e, f]] : List (List Int)) 0 = [a, b, c] := rfl
  have g1 : at_ (.arr 3 (.int .i64)) ([[a, b, c], [d, e, f]] : List (List Int)) 1 = [d, e, f] := rfl
  have cut : ∀ (N : Nat) (B : Int), 0 ≤ B → N ≤ 9223372036854775807 → cutOk N none (some (if B < (N : Int) then B else (N : Int))) = true := by
    intro N B h0 h1
    unfold cutOk
    simp
    split <;> omega
  unfold f4
  refine bindE sane_eq ?_
  simp only [Bool.not_true, cond_false]
  refine bindE e1 ?_
  refine bindE e14 ?_
  refine bindE e3 ?_
  refine bindE e19 ?_
  simp only [dec_f (show ¬ (0 : Int) ≠ 0 by omega), cond_false, cut raw.1.length 8 (by omega) hr1, cut raw.2.1.length 8 (by omega) hr2, cut raw.2.2.1.length 50 (by omega) hr3, cond_true]
  have t1 : (raw.1.take (Int.toNat (if (8 : Int) < (raw.1.length : Int) then (8 : Int) else (raw.1.length : Int)))).length ≤ 1000 := by
    rw [List.length_take]
    split <;> omega
  have t2 : (raw.2.1.take (Int.toNat (if (8 : Int) < (raw.2.1.length : Int) then (8 : Int) else (raw.2.1.length : Int)))).length ≤ 1000 := by
    rw [List.length_take]
    split <;> omega
  have t3 : (raw.2.2.1.take (Int.toNat (if (50 : Int) < (raw.2.2.1.length : Int) then (50 : Int) else (raw.2.2.1.length : Int)))).length ≤ 1000 := by
    rw [List.length_take]
    split <;> omega
  generalize raw.1.take (Int.toNat (if (8 : Int) < (raw.1.length : Int) then (8 : Int) else (raw.1.length : Int))) = RK at t1 ⊢
  generalize raw.2.1.take (Int.toNat (if (8 : Int) < (raw.2.1.length : Int) then (8 : Int) else (raw.2.1.length : Int))) = RV at t2 ⊢
  generalize raw.2.2.1.take (Int.toNat (if (50 : Int) < (raw.2.2.1.length : Int) then (50 : Int) else (raw.2.2.1.length : Int))) = RP at t3 ⊢
  obtain ⟨own, hown, e13⟩ := own_loop chg y hy (rootD l) RK RV RP [[a, b, c], [d, e, f]] K hKl (K.map (atK l)) (pc K (Nd l) 6 1) K.length 0 (K.length + 1) [] (by omega) (by omega) rfl (fun _ h => (nomatch h))
  rw [show ((opn l K).1.length : Int) = (K.length : Int) from rfl, len0]
  refine bindE e13 ?_
  simp only [j0, j1, cond_true, g0, g1]
  refine bindE f1 ?_
  refine bindE f1 ?_
  refine bindE f2 ?_
  simp only
  have rnd := fun (p : Opening) (q1 : p.1.length ≤ 1000) (q2 : p.2.1.length ≤ 1000) (q3 : p.2.2.1.length ≤ 1000) (n k : Nat) (hg : ([opn l K, b1, b2, (RK, RV, RP, ())] : List Opening)[n]? = some p) (hn : n < 4) => read_round chg hchg (rootD l) own hown p q1 q2 q3 [opn l K, b1, b2, (RK, RV, RP, ())] n k hg hn (by omega)
  have kk : ∀ {o : Opening}, OpOk o → o.1.length ≤ 1000 ∧ o.2.1.length ≤ 1000 ∧ o.2.2.1.length ≤ 1000 := fun {o} h => ⟨by have := h.kl; omega, by have := h.kl; have := h.vk; omega, by have := h.pl; omega⟩
  have s0 := rnd (opn l K) (kk o1).1 (kk o1).2.1 (kk o1).2.2 0 4 rfl (by omega)
  have s1 := rnd b1 (kk k1).1 (kk k1).2.1 (kk k1).2.2 1 3 rfl (by omega)
  have s2 := rnd b2 (kk k2).1 (kk k2).2.1 (kk k2).2.2 2 2 rfl (by omega)
  have s3 := rnd (RK, RV, RP, ()) t1 t2 t3 3 1 rfl (by omega)
  have loop : f4_l17 5 chg (rootD l) own [opn l K, b1, b2, (RK, RV, RP, ())] (([opn l K, b1, b2, (RK, RV, RP, ())] : List Opening).length : Int) ((0 : Nat) : Int) = some (.inl ((), (), ())) :=
    s0.trans (s1.trans (s2.trans (s3.trans rfl)))
  exact bindE loop rfl

theorem f4_all (x : tysDen f4_spec.args) (h : tysOk f4_spec.args x) : f4_spec.fn x = some (true, ()) := by
  obtain ⟨x1, x2, x3, x4, x5, x6, x7⟩ := x
  obtain ⟨h1, h2, h3, h4, h5, h6, _⟩ := h
  obtain ⟨p1, p2⟩ := pairsOk_of h1
  obtain ⟨p3, p4⟩ := intsOk_of h2
  obtain ⟨u, v, rfl, hu, hv⟩ := two_three_of h4
  obtain ⟨a, b, c, rfl, ha, hb, hc⟩ := three_of hu
  obtain ⟨d, e, f, rfl, hd, he, hf⟩ := three_of hv
  obtain ⟨p7, _⟩ := intsOk_of h6
  exact f4_true _ _ _ _ _ _ _ _ _ _ _ p1 p2 p3 p4 (lenOk h3.1.1) (lenOk h3.2.1.1) (lenOk h3.2.2.1.1) ha hb hc hd he hf (fun e he => Nat.le_trans (h5.2 e he).2.1 (Nat.le_of_ble_eq_true (by kernel_rfl))) p7

end Go.V.G
