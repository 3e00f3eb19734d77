/- Updates of openings of maps. -/
import Derived.Test.YtccdkoimpoockaaDoorPB
import Derived.Test.YtccdkoimpoockaaDoorGE
import Derived.Test.YtccdkoimpoockaaDoorPLaw7
set_option linter.all false
set_option linter.unusedVariables false
set_option linter.unusedSectionVars false
set_option linter.unusedSimpArgs false
namespace Go.V.G

theorem atK_putAux (k : Int) (v : ByteArray) (j : Int) : ∀ (l : List Ent) (d : Bool), l.Pairwise (fun a b => a.1 < b.1) → (d = true → ∀ e ∈ l, k < e.1) →
    atK (putAux k v d l) j = if d = true then atK l j else if j = k then v else atK l j
  | [], true, _, _ => rfl
  | [], false, _, _ => by
    simp only [putAux, atK]
    by_cases h : k = j
    · rw [if_pos h, if_neg (by simp), if_pos h.symm]
    · rw [if_neg h, if_neg (by simp), if_neg (Ne.symm h)]
  | e :: r, true, hs, hd => by
    have hk := hd rfl
    rw [List.pairwise_cons] at hs
    unfold putAux
    rw [if_pos (by have := hk e (by simp); omega)]
    have ih := atK_putAux k v j r true hs.2 (fun _ x hx => hk x (by simp [hx]))
    rw [if_pos rfl] at ih ⊢
    simp only [atK, ih]
  | e :: r, false, hs, _ => by
    rw [List.pairwise_cons] at hs
    rw [if_neg (by simp)]
    unfold putAux
    by_cases h1 : e.1 > k
    · rw [if_pos h1]
      have ih := atK_putAux k v j r true hs.2 (fun _ x hx => by have := hs.1 x hx; omega)
      rw [if_pos rfl] at ih
      simp only [atK, ih]
      by_cases h : k = j
      · rw [if_pos h, if_pos h.symm]
      · rw [if_neg h, if_neg (Ne.symm h)]
    · rw [if_neg h1]
      have ih := atK_putAux k v j r false hs.2 (fun h => by cases h)
      rw [if_neg (by simp)] at ih
      by_cases h2 : e.1 ≠ k
      · rw [if_pos h2]
        simp only [atK, ih]
        by_cases h : e.1 = j
        · rw [if_pos h, if_pos h, if_neg (by omega)]
        · rw [if_neg h, if_neg h]
      · rw [if_neg h2, ih]
        simp only [atK]
        by_cases h : j = k
        · rw [if_pos h, if_pos h]
        · rw [if_neg h, if_neg h, if_neg (by omega)]

theorem atK_put {l : List Ent} (h : Valid l) (k : Int) (v : ByteArray) (j : Int) : atK (put l k v) j = if j = k then v else atK l j := by
  unfold put
  by_cases hv : v = emp
  · -- an empty value removes the key
    rw [dec_t hv]
    have : ∀ (l : List Ent), l.Pairwise (fun a b => a.1 < b.1) → atK (putAux k v true l) j = if j = k then v else atK l j := by
      intro l
      induction l with
      | nil => intro _; rw [hv]; simp [putAux, atK]
      | cons e r ih =>
        intro hs
        rw [List.pairwise_cons] at hs
        unfold putAux
        by_cases h2 : e.1 ≠ k
        · rw [if_pos h2]
          simp only [atK, ih hs.2]
          by_cases h : e.1 = j
          · rw [if_pos h, if_pos h, if_neg (by omega)]
          · rw [if_neg h, if_neg h]
        · rw [if_neg h2, ih hs.2]
          simp only [atK]
          by_cases h : j = k
          · rw [if_pos h, if_pos h]
          · rw [if_neg h, if_neg h, if_neg (by omega)]
    exact this l h.asc
  · rw [dec_f hv, atK_putAux k v j l false h.asc (fun h => by cases h)]
    simp

theorem rootD_congr {l m : List Ent} (h : ∀ k, atK l k = atK m k) : rootD l = rootD m := D_congr _ _ fun k _ _ => h k

theorem st_opn {l m : List Ent} (hl : Valid l) {K : List Int} (hK : KeysOk K) (hm : Valid m) (ho : ∀ k, k ∉ K → atK l k = atK m k) :
    half_formed K (K.map (atK m)) (pc K (Nd l) 6 1) = true ∧ mn K 6 1 = (pc K (Nd l) 6 1).length ∧ sd K (vF K (K.map (atK m))) 6 1 (pc K (Nd l) 6 1) = rootD m := by
  have hlv : ∀ e ∈ l, e.2.1.size ≤ 65536 := fun e he => (hl.val e he).2
  have hmv : ∀ e ∈ m, e.2.1.size ≤ 65536 := fun e he => (hm.val e he).2
  refine ⟨?_, (pc_mn K (Nd l) 6 1).symm, ?_⟩
  · unfold half_formed
    rw [keysB_none.2 hK, dec_t (List.length_map ..), okV_iff.2 (fun s hs => by obtain ⟨k, _, rfl⟩ := List.mem_map.1 hs; exact atK_size hmv k), okP_iff.2 (pc_size hlv 6 1)]
    rfl
  · have e := sd_pc (V := vF K (K.map (atK m))) (l := l) (m := m) (fun k hk => vF_of_map (atK m) hk) ho 6 1 [] nod_root
    rwa [List.append_nil, Nd_one] at e

theorem stOf_opn {l : List Ent} (hl : Valid l) {K : List Int} (hK : KeysOk K) : stOf K (K.map (atK l)) (pc K (Nd l) 6 1) = some (rootD l) := by
  obtain ⟨h1, h2, h3⟩ := st_opn hl hK hl (fun _ _ => rfl)
  unfold stOf
  rw [h1, dec_t h2, h3]
  rfl

theorem updV_congr {k : Int} : ∀ (cs : List Ent) {V W : Int → ByteArray}, V k = W k → updV V cs k = updV W cs k
  | [], _, _, h => h
  | c :: cs, V, W, h => updV_congr cs (by show (if k = c.1 then _ else _) = (if k = c.1 then _ else _); rw [h])

/-- An update of an opening of a map leads to the root of the changed map. -/
theorem upd_opn {l m : List Ent} (hl : Valid l) {K : List Int} (hK : KeysOk K) (hm : Valid m) {cs : List Ent} (hc : chOk K cs = true)
    (h1 : ∀ k ∈ K, updV (atK l) cs k = atK m k) (ho : ∀ k, k ∉ K → atK l k = atK m k) (hcl : cs.length ≤ 1000) : f27 (rootD l) (opn l K) cs = some (rootD m, true, ()) := by
  have hKl := hK.len
  have hp := pc_len K (Nd l) 6 1
  have hp6 : 2 ^ 6 = 64 := rfl
  unfold opn
  rw [f27_eq _ _ _ _ _ (by omega) (by rw [List.length_map]; omega) (by omega) (by omega), if_pos ⟨stOf_opn hl hK, hc⟩]
  have e : K.map (updV (vF K (K.map (atK l))) cs) = K.map (atK m) := List.map_congr_left fun k hk => by
    rw [updV_congr cs (vF_of_map (atK l) hk), h1 k hk]
  obtain ⟨q1, q2, q3⟩ := st_opn hl hK hm ho
  rw [e, if_pos q1, q3, dec_t q2]

theorem keysOk_of_asc {K : List Int} (h1 : ∀ k ∈ K, 0 ≤ k ∧ k < 64) (h2 : K.Pairwise (· < ·)) : KeysOk K := ⟨h1, h2⟩

theorem chOk_of {K : List Int} {cs : List Ent} (h1 : KeysOk (cs.map (·.1))) (h2 : ∀ c ∈ cs, c.1 ∈ K) : chOk K cs = true := by
  unfold chOk
  rw [keysB_none.2 h1, Bool.true_and, List.all_eq_true]
  exact fun c hc => decide_eq_true (h2 c hc)

end Go.V.G
namespace Go.V.G

theorem wrap_range (z : Int) : -9223372036854775808 ≤ IntKind.wrap .i64 z ∧ IntKind.wrap .i64 z ≤ 9223372036854775807 := by
  unfold IntKind.wrap
  simp only [IntKind.signed, IntKind.bits, Bool.true_and, decide_eq_true_eq, show (2 : Int) ^ 64 = 18446744073709551616 from rfl, show (2 : Int) ^ (64 - 1) = 9223372036854775808 from rfl]
  split <;> omega

theorem nil_or_app (r : List Int) : r = [] ∨ ∃ q a, r = q ++ [a] := by
  rcases List.eq_nil_or_concat r with h | ⟨q, a, h⟩
  · exact .inl h
  · exact .inr ⟨q, a, by rw [h, List.concat_eq_append]⟩

structure Inv (k : Int) (r : List Int) : Prop where
  ok : KeysOk r
  le : ∀ e ∈ r, e ≤ k

theorem last_at {r : List Int} {a : Int} : at_ (.int .i64) (r ++ [a]) (((r ++ [a]).length - 1 : Nat) : Int) = a := by
  refine at_get (T := .int .i64) ?_
  simp

theorem add_key (n k : Int) (r : List Int) (h : Inv k r) (hk : 0 ≤ k ∧ k < 64) : ∃ r', Inv k r' ∧ ∀ {β : Type} (F : List Int → Option β),
    (bif (decide (n = k)) then
      bif (decide ((r.length : Int) = (0 : Int))) then
        bif (decide (r.length + ([k] : List Int).length ≤ appLim)) then F (r ++ ([k] : List Int)) else none
      else
        bif (inR (IntKind.wrap .i64 ((r.length : Int) - (1 : Int))) r.length) then
          bif (decide ((at_ (.int .i64) r (IntKind.wrap .i64 ((r.length : Int) - (1 : Int)))) < k)) then
            bif (decide (r.length + ([k] : List Int).length ≤ appLim)) then F (r ++ ([k] : List Int)) else none
          else
            F r
        else none
    else F r) = F r' := by
  have hrl := h.ok.len
  have lim : r.length + ([k] : List Int).length ≤ appLim := by unfold appLim; simp; omega
  by_cases hn : n = k
  · rcases nil_or_app r with rfl | ⟨q, a, rfl⟩
    · refine ⟨[k], ⟨⟨fun x hx => by simp at hx; omega, by simp⟩, fun x hx => by simp at hx; omega⟩, fun F => ?_⟩
      rw [dec_t hn]
      simp only [List.length_nil, List.nil_append, cond_true]
      rw [dec_t (show (((0 : Nat) : Int)) = 0 from rfl), dec_t (show 0 + ([k] : List Int).length ≤ appLim by simpa using lim)]
      rfl
    · have hlen : (q ++ [a]).length = q.length + 1 := by simp
      have e1 : IntKind.wrap .i64 (((q ++ [a]).length : Int) - 1) = (((q ++ [a]).length - 1 : Nat) : Int) := by rw [wrapS (by omega) (by omega)]; omega
      have i1 : inR (((q ++ [a]).length - 1 : Nat) : Int) (q ++ [a]).length = true := inR_of (by omega) (by omega)
      by_cases ha : a < k
      · refine ⟨(q ++ [a]) ++ [k], ⟨⟨fun x hx => ?_, ?_⟩, fun x hx => ?_⟩, fun F => ?_⟩
        · rcases List.mem_append.1 hx with hx | hx
          · exact h.ok.key x hx
          · simp at hx; omega
        · rw [List.pairwise_append]
          refine ⟨h.ok.asc, by simp, fun x hx y hy => ?_⟩
          have hy : y = k := by simpa using hy
          rw [hy]
          rcases List.mem_append.1 hx with hx | hx
          · have := (List.pairwise_append.1 h.ok.asc).2.2 x hx a (by simp); omega
          · simp at hx; omega
        · rcases List.mem_append.1 hx with hx | hx
          · exact h.le x hx
          · simp at hx; omega
        · rw [dec_t hn, dec_f (show ¬ ((q ++ [a]).length : Int) = 0 by omega), e1, i1, last_at, dec_t ha, dec_t lim]
          rfl
      · refine ⟨q ++ [a], h, fun F => ?_⟩
        rw [dec_t hn, dec_f (show ¬ ((q ++ [a]).length : Int) = 0 by omega), e1, i1, last_at, dec_f ha]
        rfl
  · refine ⟨r, h, fun F => ?_⟩
    rw [dec_f hn]
    rfl

theorem some_loop {l : List Ent} (hl : Valid l) (x : List Int) (hx : ∀ c ∈ x, -9223372036854775808 ≤ c ∧ c ≤ 9223372036854775807) (hxl : x.length ≤ 9223372036854775807) (k : Int) (hk : 0 ≤ k ∧ k < 64) :
    ∀ (j n m : Nat) (r : List Int), j + n = 7 → n ≤ x.length → x.length - n < m → Inv k r → ∃ r', Inv k r' ∧ f17_l6 l x k m n r = some ((l, x, k, ()), (), (r', ()))
  | j, n, 0, _, _, _, hm, _ => by omega
  | 0, n, m + 1, r, hj, hn, hm, hr => by
    refine ⟨r, hr, ?_⟩
    rw [f17_l6]
    by_cases h : (n : Int) < x.length
    · rw [dec_t h, cond_true, dec_f (by omega)]; rfl
    · rw [dec_f h]; rfl
  | j + 1, n, m + 1, r, hj, hn, hm, hr => by
    by_cases h : (n : Int) < x.length
    · by_cases h6 : (n : Int) < 6
      · have hlt : n < x.length := by omega
        obtain ⟨c, hc⟩ : ∃ c, x[n]? = some c := ⟨x[n], List.getElem?_eq_getElem hlt⟩
        have hcr := hx c (List.mem_of_getElem? hc)
        have hat : at_ (.int .i64) x (n : Int) = c := at_get (T := .int .i64) hc
        have hi : inR (n : Int) x.length = true := inR_of (by omega) h
        obtain ⟨a, p1, _, p2, p3⟩ := pick_eq (IntKind.wrap .i64 (Int.tdiv c 2)) 64 (wrap_range _) (by omega)
        obtain ⟨b, q1, _, q2, q3⟩ := pick_eq c 2 hcr (by omega)
        rw [f17_l6]
        simp only [dec_t h, dec_t h6, cond_true, hi, hat, p1, q1, Option.bind_some, next64 n (by omega)]
        by_cases hb : b = 0
        · rw [dec_t hb, cond_true]
          by_cases hll : (l.length : Int) > 0
          · rw [dec_t hll, cond_true]
            have hl64 := hl.len
            obtain ⟨d, s1, _, s2, s3⟩ := pick_eq (IntKind.wrap .i64 (Int.tdiv c 2)) l.length (wrap_range _) hll
            obtain ⟨r', g1, g2⟩ := add_key (at_ TE l d).1 k r hr hk
            obtain ⟨r2, f1, f2⟩ := some_loop hl x hx hxl k hk j (n + 1) m r' (by omega) (by omega) (by omega) g1
            refine ⟨r2, f1, ?_⟩
            simp only [s1, Option.bind_some, inR_of s2 s3, cond_true]
            exact (g2 _).trans f2
          · rw [dec_f hll, cond_false]
            obtain ⟨r', g1, g2⟩ := add_key a k r hr hk
            obtain ⟨r2, f1, f2⟩ := some_loop hl x hx hxl k hk j (n + 1) m r' (by omega) (by omega) (by omega) g1
            exact ⟨r2, f1, (g2 _).trans f2⟩
        · rw [dec_f hb, cond_false]
          obtain ⟨r', g1, g2⟩ := add_key a k r hr hk
          obtain ⟨r2, f1, f2⟩ := some_loop hl x hx hxl k hk j (n + 1) m r' (by omega) (by omega) (by omega) g1
          exact ⟨r2, f1, (g2 _).trans f2⟩
      · refine ⟨r, hr, ?_⟩
        rw [f17_l6, dec_t h, cond_true, dec_f h6]; rfl
    · refine ⟨r, hr, ?_⟩
      rw [f17_l6, dec_f h]; rfl

theorem some_outer {l : List Ent} (hl : Valid l) (x : List Int) (hx : ∀ c ∈ x, -9223372036854775808 ≤ c ∧ c ≤ 9223372036854775807) (hxl : x.length ≤ 9223372036854775807) :
    ∀ (m k : Nat) (r : List Int), k + m = 64 → Inv k r → ∃ r', KeysOk r' ∧ f17_l3 (m + 1) l x k r = some ((), (), (r', ()))
  | 0, k, r, hk, hr => by
    refine ⟨r, hr.ok, ?_⟩
    rw [f17_l3, dec_f (by omega)]
    rfl
  | m + 1, k, r, hk, hr => by
    obtain ⟨r1, g1, g2⟩ := some_loop hl x hx hxl (k : Int) (by omega) 7 0 (x.length + 1) r (by omega) (by omega) (by omega) hr
    obtain ⟨r2, f1, f2⟩ := some_outer hl x hx hxl m (k + 1) r1 (by omega) ⟨g1.ok, fun e he => by have := g1.le e he; omega⟩
    refine ⟨r2, f1, ?_⟩
    rw [f17_l3, dec_t (show (k : Int) < 64 by omega), cond_true, len0]
    refine bindE g2 ?_
    simp only [next64 k (by omega)]
    exact f2

theorem f17_eq {l : List Ent} (hl : Valid l) (x : List Int) (hx : ∀ c ∈ x, -9223372036854775808 ≤ c ∧ c ≤ 9223372036854775807) (hxl : x.length ≤ 9223372036854775807) :
    ∃ K, KeysOk K ∧ f17 l x = some (K, ()) := by
  obtain ⟨K, h1, h2⟩ := some_outer hl x hx hxl 64 0 [] (by omega) ⟨⟨(fun _ h => nomatch h), .nil⟩, (fun _ h => nomatch h)⟩
  refine ⟨K, h1, ?_⟩
  unfold f17
  rw [show ((64 : Int) - 0).toNat + 1 = 64 + 1 from rfl]
  exact bindE h2 rfl

theorem intsOk_of {x : List Int} (h : Ty.ok (.sl (.int .i64)) x) : (∀ c ∈ x, -9223372036854775808 ≤ c ∧ c ≤ 9223372036854775807) ∧ x.length ≤ 9223372036854775807 :=
  ⟨fun c hc => intOk (h.2 c hc), Nat.le_trans h.1 (Nat.le_of_ble_eq_true (by kernel_rfl))⟩

end Go.V.G
