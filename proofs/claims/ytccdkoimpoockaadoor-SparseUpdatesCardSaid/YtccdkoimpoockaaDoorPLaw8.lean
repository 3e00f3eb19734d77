/- SparseUpdates as a plain law. -/
import Derived.Test.YtccdkoimpoockaaDoorPC
import Derived.Test.YtccdkoimpoockaaDoorPLaw9
import Derived.Test.YtccdkoimpoockaaDoorGL8
set_option linter.all false
set_option linter.unusedVariables false
set_option linter.unusedSectionVars false
set_option linter.unusedSimpArgs false
namespace Go.V.G

theorem updV_snoc (c : Ent) (k : Int) : ∀ (cs : List Ent) (V : Int → ByteArray), updV V (cs ++ [c]) k = if k = c.1 then c.2.1 else updV V cs k
  | [], V => rfl
  | d :: cs, V => updV_snoc c k cs _

theorem updV_out {k : Int} : ∀ (cs : List Ent) (V : Int → ByteArray), k ∉ cs.map (·.1) → updV V cs k = V k
  | [], V, _ => rfl
  | c :: cs, V, h => by
    simp only [List.map_cons, List.mem_cons, not_or] at h
    show updV _ cs k = _
    rw [updV_out cs _ h.2, if_neg h.1]

theorem updV_map (f : Int → ByteArray) (k : Int) : ∀ (ks : List Int) (V : Int → ByteArray), updV V (ks.map fun k => (k, f k, ())) k = if k ∈ ks then f k else V k
  | [], V => by simp [updV]
  | x :: ks, V => by
    show updV _ (ks.map _) k = _
    rw [updV_map f k ks]
    by_cases h1 : k ∈ ks
    · rw [if_pos h1, if_pos (by simp [h1])]
    · rw [if_neg h1]
      by_cases h2 : k = x
      · subst h2
        have : k ∈ k :: ks := by simp
        rw [if_pos this]
        exact if_pos rfl
      · have : ¬ k ∈ x :: ks := by simp [h1, h2]
        rw [if_neg this]
        exact if_neg h2

theorem take_succ_at {K : List Int} {n : Nat} {x : Int} (h : K[n]? = some x) : K.take (n + 1) = K.take n ++ [x] := by
  rw [List.take_add_one, h]; rfl

structure UpInv (l : List Ent) (K : List Int) (n : Nat) (m ch back : List Ent) : Prop where
  ok : Valid m
  at_ : ∀ k, atK m k = updV (atK l) ch k
  ks : ch.map (·.1) = K.take n
  bk : back = (K.take n).map fun k => (k, atK l k, ())

theorem up_loop {l : List Ent} (hl : Valid l) {K : List Int} (hK : KeysOk K) (y : List Int) (hy : ∀ c ∈ y, -9223372036854775808 ≤ c ∧ c ≤ 9223372036854775807) (root : ByteArray) (p q : Int) (vs ps : List ByteArray) :
    ∀ (j n fuel : Nat) (m ch back : List Ent), n + j = K.length → j < fuel → UpInv l K n m ch back → ch.length = n → back.length = n →
      ∃ (n' : Nat) (m' ch' back' : List Ent), n' ≤ K.length ∧ UpInv l K n' m' ch' back' ∧ f8_l10 y l root p q K vs ps fuel m n ch back = some ((root, p, q, m', ()), (), ((K, vs, ps, ()), ch', back', ()))
  | _, n, 0, _, _, _, _, hf, _, _, _ => by omega
  | 0, n, fuel + 1, m, ch, back, hn, _, hinv, _, _ => by
    refine ⟨n, m, ch, back, by omega, hinv, ?_⟩
    rw [f8_l10, dec_f (by omega)]
    rfl
  | j + 1, n, fuel + 1, m, ch, back, hn, hf, hinv, hcl, hbl => by
    have hKl := hK.len
    have hll := hl.len
    by_cases hny : (n : Int) < y.length
    · have hlt : n < K.length := by omega
      obtain ⟨c, hc⟩ : ∃ c, y[n]? = some c := ⟨y[n], List.getElem?_eq_getElem (by omega)⟩
      have hcr := hy c (List.mem_of_getElem? hc)
      have hcat : at_ (.int .i64) y (n : Int) = c := at_get (T := .int .i64) hc
      obtain ⟨x, hx⟩ : ∃ x, K[n]? = some x := ⟨K[n], List.getElem?_eq_getElem hlt⟩
      have hxat : at_ (.int .i64) K (n : Int) = x := at_get (T := .int .i64) hx
      have hxK := List.mem_of_getElem? hx
      have hxr := hK.key x hxK
      have hin : inR (n : Int) K.length = true := inR_of (by omega) (by omega)
      obtain ⟨r, _, e4, r1, r2⟩ := pick_eq c 3 hcr (by omega)
      obtain ⟨i1, v, v1, v2⟩ := vals3 r r1 r2
      have hml := hinv.ok.len
      have h33 := f33_eq m x v (by omega)
      have h29 := f29_eq l x (by omega)
      have inv2 : UpInv l K (n + 1) (put m x v) (ch ++ [(x, v, ())]) (back ++ [(x, atK l x, ())]) := by
        refine ⟨put_valid hinv.ok hxr v2, fun k => ?_, ?_, ?_⟩
        · rw [atK_put hinv.ok, updV_snoc, hinv.at_]
        · rw [List.map_append, hinv.ks, take_succ_at hx]; rfl
        · rw [hinv.bk, take_succ_at hx, List.map_append]; rfl
      obtain ⟨n', m', ch', back', g1, g2, g3⟩ := up_loop hl hK y hy root p q vs ps j (n + 1) fuel _ _ _ (by omega) (by omega) inv2 (by simp [hcl]) (by simp [hbl])
      refine ⟨n', m', ch', back', g1, g2, ?_⟩
      rw [f8_l10]
      simp only [dec_t (show (n : Int) < K.length by omega), dec_t hny, cond_true, inR_of (show (0 : Int) ≤ n by omega) hny, hcat, e4, Option.bind_some, i1, v1, hin, hxat, List.length_singleton, dec_t (show ch.length + 1 ≤ appLim by unfold appLim; omega), h29, dec_t (show back.length + 1 ≤ appLim by unfold appLim; omega), h33, next64 n (by omega)]
      exact g3
    · refine ⟨n, m, ch, back, by omega, hinv, ?_⟩
      rw [f8_l10, dec_t (by omega), cond_true, dec_f hny]
      rfl

theorem f8_true (x : List (List Int)) (y z : List Int) (hx : PairsOk x) (hxl : x.length ≤ 9223372036854775807) (hy : ∀ c ∈ y, -9223372036854775808 ≤ c ∧ c ≤ 9223372036854775807) (hyl : y.length ≤ 9223372036854775807)
    (hz : ∀ c ∈ z, -9223372036854775808 ≤ c ∧ c ≤ 9223372036854775807) : f8 x y z = some (true, ()) := by
  obtain ⟨l, hl, e1⟩ := f11_eq x hx hxl
  obtain ⟨K, hK, e2⟩ := f17_eq hl y hy hyl
  have hKl := hK.len
  have hll := hl.len
  obtain ⟨n, m, ch, back, g1, g2, g3⟩ := up_loop hl hK z hz (rootD l) 0 0 (K.map (atK l)) (pc K (Nd l) 6 1) K.length 0 (K.length + 1) l [] [] (by omega) (by omega) ⟨hl, fun k => rfl, by simp, by simp⟩ rfl rfl
  have hcl : ch.length ≤ 64 := by
    have := congrArg List.length g2.ks
    rw [List.length_map, List.length_take] at this; omega
  have hbl : back.length ≤ 64 := by rw [g2.bk, List.length_map, List.length_take]; omega
  have htake : KeysOk (K.take n) := ⟨fun k hk => hK.key k (List.mem_of_mem_take hk), hK.asc.sublist (List.take_sublist ..)⟩
  have hbk : back.map (·.1) = K.take n := by rw [g2.bk, List.map_map]; exact List.map_id' _
  have c1 : chOk K ch = true := chOk_of (g2.ks ▸ htake) (fun c hc => List.mem_of_mem_take (by rw [← g2.ks]; exact List.mem_map_of_mem hc))
  have c2 : chOk K back = true := chOk_of (hbk ▸ htake) (fun c hc => List.mem_of_mem_take (by rw [← hbk]; exact List.mem_map_of_mem hc))
  have out : ∀ k, k ∉ K → atK l k = atK m k := fun k hk => by
    rw [g2.at_, updV_out]
    rw [g2.ks]
    exact fun h => hk (List.mem_of_mem_take h)
  have u1 := upd_opn hl hK g2.ok c1 (fun k _ => (g2.at_ k).symm) out (by omega)
  have u2 := upd_opn hl hK hl c2 (fun k _ => by rw [g2.bk, updV_map]; split <;> rfl) (fun _ _ => rfl) (by omega)
  have u3 := upd_opn g2.ok hK hl c2 (fun k _ => by
    rw [g2.bk, updV_map]
    split
    · rfl
    · rename_i h
      rw [g2.at_, updV_out]
      rw [g2.ks]; exact h) (fun k hk => (out k hk).symm) (by omega)
  unfold f8
  refine bindE sane_eq ?_
  simp only [Bool.not_true, cond_false]
  refine bindE e1 ?_
  refine bindE (f13_eq hl) ?_
  refine bindE e2 ?_
  refine bindE (f18_eq hl hK) ?_
  rw [show ((opn l K).1.length : Int) = (K.length : Int) from rfl, len0]
  refine bindE g3 ?_
  refine bindE u1 ?_
  refine bindE (f13_eq g2.ok) ?_
  refine bindE u2 ?_
  refine bindE (f18_eq g2.ok hK) ?_
  refine bindE u3 ?_
  simp

theorem f8_all (x : tysDen f8_spec.args) (h : tysOk f8_spec.args x) : f8_spec.fn x = some (true, ()) := by
  obtain ⟨h1, h2, h3, _⟩ := h
  obtain ⟨p1, p2⟩ := pairsOk_of h1
  obtain ⟨p3, p4⟩ := intsOk_of h2
  obtain ⟨p5, p6⟩ := intsOk_of h3
  exact f8_true _ _ _ p1 p2 p3 p4 p5

end Go.V.G
