/- Part of the proof. -/
import Derived.KernelRfl
import Derived.Test.YtfjpfjcdejjkeaaGreatDoorA5
set_option linter.all false
set_option linter.unusedVariables false
set_option linter.unusedSectionVars false
set_option linter.unusedSimpArgs false
namespace Go.V.G
theorem ends_loopF (es : List Ed) (id : Int) (h : es.length ≤ 1000) (k : Nat) (hk : es.length < k) : f31_l2 es (es.length : Int) id k 0 [] = some ((), (), ((id, ()), (atE es id).map (farE id), ())) := by
 have hl := fold_loop tE (fun (acc : List Int) (e : Ed) => if isAt id e = true then acc ++ [farE id e] else acc) (fun k j acc => f31_l2 es (es.length : Int) id k j acc) (fun r => ((), (), ((id, ()), r, ()))) (fun j acc => acc.length ≤ j) es (by
  intro k j acc hI
  show f31_l2 es (es.length : Int) id (k + 1) (j : Int) acc = _
  conv => lhs; unfold f31_l2
  by_cases hj : j < es.length
  ·have e1 : decide ((j : Int) < (es.length : Int)) = true := by simp; omega
   have hget : at_ tE es (j : Int) = es[j] := atN tE es j hj
   have hap : ∀ n : Int, decide (acc.length + ([n] : List Int).length ≤ appLim) = true := fun e => appOk _ _ (by simp; omega)
   rw [dif_pos hj]
   simp only [e1, cond_true, inRN, decide_eq_true hj, wS j (by omega), hget, f64_eq, Option.bind_some, hap]
   unfold isAt
   by_cases h1 : es[j].2.1 = id
   ·simp [h1]
   ·by_cases h2 : es[j].2.2.1 = id
    ·simp [h1, h2]
    ·simp [h1, h2]
  ·have e1 : decide ((j : Int) < (es.length : Int)) = false := by simp; omega
   rw [dif_neg hj]
   simp only [e1, cond_false]) (by
  intro j acc hj hI
  show (if isAt id es[j] = true then acc ++ [farE id es[j]] else acc).length ≤ j + 1
  split
  ·simp; omega
  ·omega)
 have h2 := hl es.length k 0 [] (by omega) hk (by simp)
 rw [List.drop_zero, fold_far] at h2
 exact h2
theorem comp_loopF (orig : List Int) (o n : Nat) (id : Int) (ho : o + n = orig.length) (hl : orig.length ≤ 1000) : ∀ (m k t w : Nat) (r : List Int), n - t ≤ m → m < k → 1 ≤ t → t ≤ n → r.length = orig.length → r.drop (o + t - 1) = orig.drop (o + t - 1) → r.take w = comp (orig.take (o + t)) → w ≤ o + t - 1 →
  ∃ (w' : Nat) (r' : List Int), f73_l9_b33000 (o, n) id k (w : Int) (t : Int) r = some (((w' : Int), ()), ((), ()), (r', (id, ()), ())) ∧ r'.length = orig.length ∧ w' ≤ orig.length ∧ r'.take w' = comp orig := by
 intro m
 induction m with
 | zero =>
  intro k t w r h1 h2 h3 h4 h5 h6 h7 h8
  obtain ⟨k, rfl⟩ : ∃ q, k = q + 1 := ⟨k - 1, by omega⟩
  have hlen : ((r.drop o).take n).length = n := by rw [List.length_take, List.length_drop]; omega
  refine ⟨w, r, ?_, h5, by omega, ?_⟩
  ·unfold f73_l9_b33000
   simp only [hlen]
   rw [decide_eq_false (by omega)]
   rfl
  ·rw [h7, show o + t = orig.length by omega, List.take_length]
 | succ m ih =>
  intro k t w r h1 h2 h3 h4 h5 h6 h7 h8
  obtain ⟨k, rfl⟩ : ∃ q, k = q + 1 := ⟨k - 1, by omega⟩
  have hlen : ((r.drop o).take n).length = n := by rw [List.length_take, List.length_drop]; omega
  by_cases ht : t < n
  ·obtain ⟨t, rfl⟩ : ∃ q, t = q + 1 := ⟨t - 1, by omega⟩
   have hlt : o + t + 1 < orig.length := by omega
   have g1 := get_drop h6 h5 (i := o + t) (by omega) (by omega)
   have g2 := get_drop h6 h5 (i := o + t + 1) (by omega) hlt
   have w1 : IntKind.wrap .i64 (((t + 1 : Nat) : Int) - (1 : Int)) = (t : Int) := by rw [wrap_i64 _ (by omega) (by omega)]; omega
   have a1 : at_ (.int .i64) r ((o : Int) + (t : Int)) = orig[o + t]'(by omega) := by
    rw [show (o : Int) + (t : Int) = ((o + t : Nat) : Int) by omega]
    exact (atN (.int .i64) r (o + t) (by omega)).trans g1
   have a2 : at_ (.int .i64) r ((o : Int) + ((t + 1 : Nat) : Int)) = orig[o + t + 1] := by
    rw [show (o : Int) + ((t + 1 : Nat) : Int) = ((o + t + 1 : Nat) : Int) by omega]
    exact (atN (.int .i64) r (o + t + 1) (by omega)).trans g2
   have ct := comp_take orig (o + t) hlt
   have d1 : r.drop (o + (t + 1 + 1) - 1) = orig.drop (o + (t + 1 + 1) - 1) := by
    have := congrArg (List.drop 1) h6
    rw [List.drop_drop, List.drop_drop] at this
    rw [show o + (t + 1 + 1) - 1 = o + (t + 1) - 1 + 1 by omega]
    exact this
   conv => enter [1, w', 1, r', 1, 1]; unfold f73_l9_b33000
   simp only [hlen, decide_eq_true (show ((t + 1 : Nat) : Int) < (n : Int) by omega), cond_true, w1, a1, a2, inRN, decide_eq_true (show t + 1 < n by omega), decide_eq_true (show t < n by omega), wS (t + 1) (by omega)]
   by_cases he : orig[o + t + 1] = orig[o + t]'(by omega)
   ·rw [if_pos he] at ct
    obtain ⟨w', r', q1, q2⟩ := ih k (t + 1 + 1) w r (by omega) (by omega) (by omega) (by omega) h5 d1 (by rw [h7]; exact ct.symm) (by omega)
    refine ⟨w', r', ?_, q2⟩
    simp only [he, ne_eq, not_true_eq_false, decide_false, cond_false]
    exact q1
   ·rw [if_neg he] at ct
    have hw : w < r.length := by omega
    obtain ⟨w', r', q1, q2⟩ := ih k (t + 1 + 1) (w + 1) (r.set w (orig[o + t + 1])) (by omega) (by omega) (by omega) (by omega) (by rw [List.length_set]; exact h5) (by rw [List.drop_set_of_lt (by omega)]; exact d1) (by
     rw [List.take_succ_eq_append_getElem (by rw [List.length_set]; exact hw), List.take_set_of_le (by omega), List.getElem_set_self, h7]
     exact ct.symm) (by omega)
    refine ⟨w', r', ?_, q2⟩
    simp only [he, ne_eq, not_false_eq_true, decide_true, cond_true, decide_eq_true hw, wS w (by omega), Int.toNat_natCast]
    exact q1
  ·refine ⟨w, r, ?_, h5, by omega, ?_⟩
   ·unfold f73_l9_b33000
    simp only [hlen]
    rw [decide_eq_false (by omega)]
    rfl
   ·rw [h7, show o + t = orig.length by omega, List.take_length]
theorem comp_firstF (id : Int) (r : List Int) (hl : r.length ≤ 1000) : ∀ (m k j : Nat), r.length - j ≤ m → m < k → 1 ≤ j → j ≤ r.length → comp (r.take j) = r.take j →
  (f73_l4_b33000 r id k (j : Int) = some (.inl ((), ((), ()), (r, (id, ()), ()))) ∧ comp r = r) ∨
  ∃ (w : Nat) (r' : List Int), f73_l4_b33000 r id k (j : Int) = some (.inr ((w, ()), ((), ()), (r', (id, ()), ()))) ∧ r'.length = r.length ∧ w ≤ r.length ∧ r'.take w = comp r := by
 intro m
 induction m with
 | zero =>
  intro k j h1 h2 h3 h4 h5
  obtain ⟨k, rfl⟩ : ∃ q, k = q + 1 := ⟨k - 1, by omega⟩
  left
  have hj : j = r.length := by omega
  subst hj
  rw [List.take_length] at h5
  refine ⟨?_, h5⟩
  unfold f73_l4_b33000
  rw [decide_eq_false (by omega)]
  rfl
 | succ m ih =>
  intro k j h1 h2 h3 h4 h5
  obtain ⟨k, rfl⟩ : ∃ q, k = q + 1 := ⟨k - 1, by omega⟩
  by_cases hj : j < r.length
  ·obtain ⟨i, rfl⟩ : ∃ q, j = q + 1 := ⟨j - 1, by omega⟩
   have w1 : IntKind.wrap .i64 (((i + 1 : Nat) : Int) - (1 : Int)) = (i : Int) := by rw [wrap_i64 _ (by omega) (by omega)]; omega
   have a1 : at_ (.int .i64) r (i : Int) = r[i]'(by omega) := atN (.int .i64) r i (by omega)
   have a2 : at_ (.int .i64) r ((i + 1 : Nat) : Int) = r[i + 1] := atN (.int .i64) r (i + 1) hj
   have ct := comp_take r i hj
   unfold f73_l4_b33000
   simp only [decide_eq_true (show ((i + 1 : Nat) : Int) < (r.length : Int) by omega), cond_true, w1, a1, a2, inRN, decide_eq_true hj, decide_eq_true (show i < r.length by omega), wS (i + 1) (by omega)]
   by_cases he : r[i + 1] = r[i]'(by omega)
   ·right
    rw [if_pos he] at ct
    obtain ⟨w, r', q1, q2, q3, q4⟩ := comp_loopF r (i + 1) (r.length - (i + 1)) id (by omega) hl (r.length - (i + 1) - 1) (r.length - (i + 1) + 1) 1 (i + 1) r (by omega) (by omega) (by omega) (by omega) rfl rfl (by rw [show i + 1 + 1 = i + 2 by omega, ct, h5]) (by omega)
    refine ⟨w, setRange r' w (List.replicate (r'.length - w) (0 : Int)), ?_, ?_, q3, ?_⟩
    ·simp only [he, decide_true, cond_true, cutLo r.length (i + 1) (by omega), cutLenLo, Int.toNat_natCast]
     have q1' : f73_l9_b33000 (i + 1, r.length - (i + 1)) id (r.length - (i + 1) + 1) ((i + 1 : Nat) : Int) 1 r = _ := q1
     refine bind_step q1' ?_
     show (bif cutOk r'.length (some (w : Int)) none then bif (cutOk (setRange r' (Int.toNat (w : Int)) (List.replicate (cutLen r'.length (some (w : Int)) none) (0 : Int))).length none (some (w : Int))) then (some (.inr (((cutLen (setRange r' (Int.toNat (w : Int)) (List.replicate (cutLen r'.length (some (w : Int)) none) (0 : Int))).length none (some (w : Int))), ()), ((), ()), ((setRange r' (Int.toNat (w : Int)) (List.replicate (cutLen r'.length (some (w : Int)) none) (0 : Int))), (id, ()), ()))) : Option (outDen f73_l4_b33000_outs)) else none else none) = _
     simp only [cutLo r'.length w (by omega), cond_true, Int.toNat_natCast, cutLenLo]
     rw [cutHi' _ w (by rw [setRange_len _ _ _ (by rw [List.length_replicate]; omega)]; omega), cutLenHi]
     rfl
    ·rw [setRange_len _ _ _ (by rw [List.length_replicate]; omega), q2]
    ·rw [setRange_take _ _ _ (by omega), q4]
   ·rw [if_neg he] at ct
    have ct' : comp (r.take (i + 1 + 1)) = r.take (i + 1 + 1) := by
     rw [show i + 1 + 1 = i + 2 by omega, ct, h5, List.take_succ_eq_append_getElem (show i + 1 < r.length from hj)]
    simp only [he, decide_false, cond_false]
    exact ih k (i + 1 + 1) (by omega) (by omega) (by omega) (by omega) ct'
  ·left
   have hj : j = r.length := by omega
   subst hj
   rw [List.take_length] at h5
   refine ⟨?_, h5⟩
   unfold f73_l4_b33000
   rw [decide_eq_false (by omega)]
   rfl
theorem idx_ofF (n k1 : Nat) (r : List Int) (id : Int) (hn : n ≤ r.length) (hl : r.length ≤ 1000) : ∀ (m k j : Nat), n - j ≤ m → m < k → j ≤ n → id ∉ r.take j →
  (f125_l2_b35010000 n (n : Int) n k1 r id k (j : Int) = some (.inl ((), ((n, ()), (k1, ()), ()), (r, (id, ()), ()))) ∧ id ∉ r.take n) ∨
  ∃ (i : Nat) (h : i < r.length), f125_l2_b35010000 n (n : Int) n k1 r id k (j : Int) = some (.inr (((i : Int), ()), ((n, ()), (k1, ()), ()), (r, (id, ()), ()))) ∧ i < n ∧ id ∉ r.take i ∧ r[i] = id := by
 intro m
 induction m with
 | zero =>
  intro k j h1 h2 h3 h4
  obtain ⟨k, rfl⟩ : ∃ q, k = q + 1 := ⟨k - 1, by omega⟩
  left
  have hj : j = n := by omega
  subst hj
  refine ⟨?_, h4⟩
  unfold f125_l2_b35010000
  rw [decide_eq_false (by omega)]
  rfl
 | succ m ih =>
  intro k j h1 h2 h3 h4
  obtain ⟨k, rfl⟩ : ∃ q, k = q + 1 := ⟨k - 1, by omega⟩
  by_cases hj : j < n
  ·have hr : j < r.length := by omega
   have a1 : at_ (.int .i64) r (0 + (j : Int)) = r[j] := by rw [Int.zero_add]; exact atN (.int .i64) r j hr
   unfold f125_l2_b35010000
   simp only [decide_eq_true (show (j : Int) < (n : Int) by omega), cond_true, inRN, decide_eq_true hj, a1, wS j (by omega)]
   by_cases he : r[j] = id
   ·right
    refine ⟨j, hr, ?_, hj, h4, he⟩
    rw [decide_eq_true he, cond_true]
   ·rw [decide_eq_false he, cond_false]
    refine ih k (j + 1) (by omega) (by omega) (by omega) ?_
    rw [List.take_succ_eq_append_getElem hr, List.mem_append]
    rintro (h | h)
    ·exact h4 h
    ·exact he (List.mem_singleton.1 h).symm
  ·left
   have hj : j = n := by omega
   subst hj
   refine ⟨?_, h4⟩
   unfold f125_l2_b35010000
   rw [decide_eq_false (by omega)]
   rfl
theorem del_loopF (n k1 : Nat) (orig : List Int) (id : Int) (hn : n ≤ orig.length) (hl : orig.length ≤ 1000) : ∀ (m k t w : Nat) (r : List Int), n - t ≤ m → m < k → t ≤ n → r.length = orig.length → r.drop t = orig.drop t → r.take w = (orig.take t).filter (fun x => !decide (x = id)) → w ≤ t →
  ∃ (w' : Nat) (r' : List Int), f72_l5_b35000 n k1 id k (w : Int) (t : Int) r = some ((n, (w' : Int), ()), ((k1, ()), ()), (r', ())) ∧ r'.length = orig.length ∧ w' ≤ n ∧ r'.take w' = (orig.take n).filter (fun x => !decide (x = id)) := by
 intro m
 induction m with
 | zero =>
  intro k t w r h1 h2 h3 h4 h5 h6 h7
  obtain ⟨k, rfl⟩ : ∃ q, k = q + 1 := ⟨k - 1, by omega⟩
  have ht : t = n := by omega
  subst ht
  have hlen : ((r.drop 0).take t).length = t := by rw [List.length_take, List.length_drop]; omega
  refine ⟨w, r, ?_, h4, h7, h6⟩
  unfold f72_l5_b35000
  simp only [hlen]
  rw [decide_eq_false (by omega)]
  rfl
 | succ m ih =>
  intro k t w r h1 h2 h3 h4 h5 h6 h7
  obtain ⟨k, rfl⟩ : ∃ q, k = q + 1 := ⟨k - 1, by omega⟩
  have hlen : ((r.drop 0).take n).length = n := by rw [List.length_take, List.length_drop]; omega
  by_cases ht : t < n
  ·have hto : t < orig.length := by omega
   have g := get_drop h5 h4 (Nat.le_refl t) hto
   have a1 : at_ (.int .i64) r (t : Int) = orig[t] := (atN (.int .i64) r t (by omega)).trans g
   have d1 : r.drop (t + 1) = orig.drop (t + 1) := by
    have := congrArg (List.drop 1) h5
    rwa [List.drop_drop, List.drop_drop] at this
   have ft : (orig.take (t + 1)).filter (fun x => !decide (x = id)) = (orig.take t).filter (fun x => !decide (x = id)) ++ (if orig[t] = id then [] else [orig[t]]) := by
    rw [List.take_succ_eq_append_getElem hto, List.filter_append]
    congr 1
    by_cases he : orig[t] = id <;> simp [he]
   conv => enter [1, w', 1, r', 1, 1]; unfold f72_l5_b35000
   simp only [hlen, decide_eq_true (show (t : Int) < (n : Int) by omega), cond_true, inRN, decide_eq_true ht, a1, wS t (by omega), wS w (by omega), decide_eq_true (show w < n by omega), Int.zero_add, Int.toNat_natCast]
   by_cases he : orig[t] = id
   ·rw [if_pos he, List.append_nil] at ft
    simp only [he, decide_true, Bool.not_true, cond_false]
    exact ih k (t + 1) w r (by omega) (by omega) (by omega) h4 d1 (by rw [h6, ft]) (by omega)
   ·rw [if_neg he] at ft
    simp only [decide_eq_false he, Bool.not_false, cond_true]
    refine ih k (t + 1) (w + 1) (r.set w orig[t]) (by omega) (by omega) (by omega) (by rw [List.length_set]; exact h4) (by rw [List.drop_set_of_lt (by omega)]; exact d1) ?_ (by omega)
    rw [List.take_succ_eq_append_getElem (by rw [List.length_set]; omega), List.take_set_of_le (by omega), List.getElem_set_self, h6, ft]
  ·have ht : t = n := by omega
   subst ht
   refine ⟨w, r, ?_, h4, h7, h6⟩
   unfold f72_l5_b35000
   simp only [hlen]
   rw [decide_eq_false (by omega)]
   rfl
def delTF (n k1 : Nat) (r : List Int) (id : Int) : Option (List Int) :=
 (f125_l2_b35010000 n (n : Int) n k1 r id (((n : Int) - (0 : Int)).toNat + 1) (0 : Int)).bind fun o10 =>
  Sum.elim (fun o11 =>
   let u13 : Nat := o11.2.1.1.1
   let u15 : (List Int) := o11.2.2.1
   some ((u15.drop 0).take u13)) (fun o12 =>
   let u17 : Int := o12.1.1
   let u18 : Nat := o12.2.1.1.1
   let u19 : Nat := o12.2.1.2.1.1
   let u20 : (List Int) := o12.2.2.1
   let u21 : Int := o12.2.2.2.1.1
   bif (decide (u17 = (-1 : Int))) then
    some ((u20.drop 0).take u18)
   else
    (f72_l5_b35000 u18 u19 u21 (((((u20.drop 0).take u18).length : Int) - (IntKind.wrap .i64 (u17 + (1 : Int)))).toNat + 1) u17 (IntKind.wrap .i64 (u17 + (1 : Int))) u20).bind fun o24 =>
    let u25 : Nat := o24.1.1
    let u26 : Int := o24.1.2.1
    let u28 : (List Int) := o24.2.2.1
    bif (cutOk u25 (some u26) none) then bif (cutOk u25 none (some u26)) then some (((setRange u28 (0 + (Int.toNat u26)) (List.replicate (cutLen u25 (some u26) none) (0 : Int))).drop 0).take (cutLen u25 none (some u26))) else none else none) o10
theorem delT_eqF (n k1 : Nat) (r : List Int) (id : Int) (hn : n ≤ r.length) (hl : r.length ≤ 1000) : delTF n k1 r id = some ((r.take n).filter (fun x => !decide (x = id))) := by
 unfold delTF
 rcases idx_ofF n k1 r id hn hl n (((n : Int) - (0 : Int)).toNat + 1) 0 (by omega) (by omega) (by omega) (by simp) with ⟨h1, h2⟩ | ⟨i, hi, h1, h2, h3, h4⟩
 ·have h1' : f125_l2_b35010000 n (n : Int) n k1 r id (((n : Int) - (0 : Int)).toNat + 1) (0 : Int) = _ := h1
  refine bind_step h1' ?_
  show some ((r.drop 0).take n) = _
  rw [List.drop_zero, notIn_filter id _ h2]
 ·have h1' : f125_l2_b35010000 n (n : Int) n k1 r id (((n : Int) - (0 : Int)).toNat + 1) (0 : Int) = _ := h1
  refine bind_step h1' ?_
  have hlen : ((r.drop 0).take n).length = n := by rw [List.length_take, List.length_drop]; omega
  have f0 : (r.take (i + 1)).filter (fun x => !decide (x = id)) = r.take i := by
   rw [List.take_succ_eq_append_getElem hi, List.filter_append, notIn_filter id _ h3, h4]
   simp
  obtain ⟨w', r', q1, q2, q3, q4⟩ := del_loopF n k1 r id hn hl (n - (i + 1)) (((n : Int) - ((i + 1 : Nat) : Int)).toNat + 1) (i + 1) i r (by omega) (by omega) (by omega) rfl rfl (by rw [f0]) (by omega)
  show (bif (decide ((i : Int) = (-1 : Int))) then some ((r.drop 0).take n) else
    (f72_l5_b35000 n k1 id (((((r.drop 0).take n).length : Int) - (IntKind.wrap .i64 ((i : Int) + (1 : Int)))).toNat + 1) (i : Int) (IntKind.wrap .i64 ((i : Int) + (1 : Int))) r).bind fun o24 =>
    bif (cutOk o24.1.1 (some o24.1.2.1) none) then bif (cutOk o24.1.1 none (some o24.1.2.1)) then some ((((setRange o24.2.2.1 (0 + (Int.toNat o24.1.2.1)) (List.replicate (cutLen o24.1.1 (some o24.1.2.1) none) (0 : Int))).drop 0).take (cutLen o24.1.1 none (some o24.1.2.1))) ) else none else none) = _
  rw [decide_eq_false (by omega), cond_false, hlen, wS i (by omega)]
  refine bind_step q1 ?_
  show (bif (cutOk n (some (w' : Int)) none) then bif (cutOk n none (some (w' : Int))) then some ((((setRange r' (0 + (Int.toNat (w' : Int))) (List.replicate (cutLen n (some (w' : Int)) none) (0 : Int))).drop 0).take (cutLen n none (some (w' : Int)))) ) else none else none) = _
  simp only [cutLo n w' q3, cutHi' n w' q3, cond_true, cutLenLo, cutLenHi, Int.toNat_natCast, Nat.zero_add, List.drop_zero]
  rw [setRange_take _ _ _ (by omega), q4]
theorem f31_eq (id : Int) (es : List Ed) (h : es.length ≤ 1000) : f31 id es = some (nb id es) := by
 have hlen : (((atE es id).map (farE id)).mergeSort fun x y => decide (x ≤ y)).length ≤ 1000 := by
  rw [List.length_mergeSort, List.length_map]
  exact Nat.le_trans (atE_len es id) h
 have hs : sortInts ((atE es id).map (farE id)) = some (((atE es id).map (farE id)).mergeSort fun x y => decide (x ≤ y)) := by
  unfold sortInts
  rw [decide_eq_true (by have := atE_len es id; rw [List.length_map]; omega), cond_true]
 unfold f31
 refine bind_step (ends_loopF es id h _ (by omega)) ?_
 refine bind_step hs ?_
 show _ = some ((comp (((atE es id).map (farE id)).mergeSort fun x y => decide (x ≤ y))).filter (fun x => !decide (x = id)))
 generalize (((atE es id).map (farE id)).mergeSort fun x y => decide (x ≤ y)) = y at hlen ⊢
 by_cases hy : y.length < 2
 ·rw [decide_eq_true (by omega), cond_true]
  have := delT_eqF y.length y.length y id (Nat.le_refl _) hlen
  rw [List.take_length] at this
  rw [comp_short y hy]
  exact this
 ·rw [decide_eq_false (by omega), cond_false]
  rcases comp_firstF id y hlen (y.length - 1) (((y.length : Int) - (1 : Int)).toNat + 1) 1 (by omega) (by omega) (by omega) (by omega) (comp_short _ (by rw [List.length_take]; omega)) with ⟨h1, h2⟩ | ⟨w, r', h1, h2, h3, h4⟩
  ·refine bind_step h1 ?_
   have := delT_eqF y.length y.length y id (Nat.le_refl _) hlen
   rw [List.take_length] at this
   rw [h2]
   exact this
  ·refine bind_step h1 ?_
   have := delT_eqF w r'.length r' id (by omega) (by omega)
   rw [h4] at this
   have hw : ((r'.drop 0).take w).length = w := by rw [List.length_take, List.length_drop]; omega
   show (f125_l2_b35010000 w (((r'.drop 0).take w).length : Int) w r'.length r' id (((((r'.drop 0).take w).length : Int) - (0 : Int)).toNat + 1) (0 : Int)).bind _ = _
   rw [hw]
   exact this
end Go.V.G
namespace Go.V.G
section
variable {R : Type}
theorem find_loop2 (T : Ty) (ok : T.den → Bool) (F : Nat → Int → Option R) (yes : R) (no : Nat → R) (l : List T.den)
  (hF : ∀ k (j : Nat), F (k + 1) (j : Int) = if h : j < l.length then (if ok l[j] = true then F k ((j + 1 : Nat) : Int) else some (no j)) else some yes) :
  ∀ (m k j : Nat), l.length - j ≤ m → m < k → ((l.drop j).all ok = true ∧ F k (j : Int) = some yes) ∨ ((l.drop j).all ok = false ∧ ∃ (i : Nat) (h : i < l.length), j ≤ i ∧ ok l[i] = false ∧ F k (j : Int) = some (no i)) := by
 intro m
 induction m with
 | zero =>
  intro k j h1 h2
  obtain ⟨k, rfl⟩ : ∃ q, k = q + 1 := ⟨k - 1, by omega⟩
  rw [hF k j, dif_neg (by omega), List.drop_of_length_le (by omega)]
  exact .inl ⟨rfl, rfl⟩
 | succ m ih =>
  intro k j h1 h2
  obtain ⟨k, rfl⟩ : ∃ q, k = q + 1 := ⟨k - 1, by omega⟩
  rw [hF k j]
  by_cases h : j < l.length
  ·rw [dif_pos h, List.drop_eq_getElem_cons h, List.all_cons]
   cases hok : ok l[j] with
   | true =>
    simp only [if_true, Bool.true_and]
    rcases ih k (j + 1) (by omega) (by omega) with h3 | ⟨h3, i, h4, h5, h6⟩
    ·exact .inl h3
    ·exact .inr ⟨h3, i, h4, by omega, h6⟩
   | false =>
    simp only [Bool.false_eq_true, if_false, Bool.false_and]
    exact .inr ⟨trivial, j, h, Nat.le_refl _, hok, rfl⟩
  ·rw [dif_neg h, List.drop_of_length_le (by omega)]
   exact .inl ⟨rfl, rfl⟩
end
theorem hasV_all (vs : List Vx) (id : Int) : hasV vs id = !(vs.all fun v => !decide (v.1 = id)) := by
 unfold hasV
 rw [List.not_all_eq_any_not]
 simp
theorem f53_eq (vs : List Vx) (es : List Ed) (ds : List Int) (id : Int) (h1 : vs.length ≤ 1099511627776) (h2 : es.length ≤ 1099511627776) (h3 : ds.length ≤ 1099511627776) :
  (valid (vs, es, ds, ()) = true ∧ ∃ v ∈ vs, v.1 = id ∧ f53 (vs, es, ds, ()) id = some (v, true, ())) ∨
  ((valid (vs, es, ds, ()) && hasV vs id) = false ∧ f53 (vs, es, ds, ()) id = some ((0, 0, ()), false, ())) := by
 have key := find_loop2 tV (fun v : Vx => !decide (v.1 = id)) (fun k j => f115_l2_b10000 vs (vs.length : Int) false id vs es ds 0 0 k j) (.inl ((), ((false, ()), ()), ((vs, es, ds, ()), (0, 0, ()), ()))) (fun i => .inr (((i : Int), ()), ((false, ()), ()), ((vs, es, ds, ()), (0, 0, ()), ()))) vs (by
  intro k j
  show f115_l2_b10000 vs (vs.length : Int) false id vs es ds 0 0 (k + 1) (j : Int) = _
  conv => lhs; unfold f115_l2_b10000
  by_cases hj : j < vs.length
  ·have hget : at_ tV vs (j : Int) = vs[j] := atN tV vs j hj
   rw [decide_eq_true (by omega), dif_pos hj]
   simp only [cond_true, inRN, decide_eq_true hj, hget, wS j (by omega)]
   by_cases c : vs[j].1 = id
   ·rw [decide_eq_true c]; rfl
   ·rw [decide_eq_false c]; rfl
  ·rw [decide_eq_false (by omega), dif_neg hj]; rfl) vs.length (((vs.length : Int) - (0 : Int)).toNat + 1) 0 (by omega) (by omega)
 rw [List.drop_zero] at key
 unfold f53
 rcases key with ⟨k1, k2⟩ | ⟨k0, i, hi, _, k1, k3⟩
 ·refine .inr ⟨?_, bind_step k2 rfl⟩
  rw [hasV_all, k1]
  simp
 ·have hv := f46_eq (vs, es, ds, ()) h1 h2 h3
  have hget : at_ tV vs (i : Int) = vs[i] := atN tV vs i hi
  have hid : vs[i].1 = id := by simpa using k1
  cases hval : valid (vs, es, ds, ()) with
  | true =>
   rw [hval] at hv
   refine .inl ⟨rfl, vs[i], List.getElem_mem hi, hid, bind_step k3 ?_⟩
   refine bind_step hv ?_
   show (bif (inR (i : Int) vs.length) then some ((at_ tV vs (i : Int)), true, ()) else none) = _
   rw [inRN, decide_eq_true hi, hget]
   rfl
  | false =>
   rw [hval] at hv
   refine .inr ⟨rfl, bind_step k3 ?_⟩
   exact bind_step hv rfl
theorem hasV_of {vs : List Vx} {v : Vx} (h : v ∈ vs) : hasV vs v.1 = true := List.any_eq_true.2 ⟨v, h, by simp⟩
theorem page_p (vs : List Vx) (es : List Ed) (ds : List Int) (id : Int) (h1 : vs.length ≤ 1099511627776) (h2 : es.length ≤ 1099511627776) (h3 : ds.length ≤ 1099511627776) :
  (valid (vs, es, ds, ()) = true ∧ ∃ v ∈ vs, v.1 = id ∧ f19 (vs, es, ds, ()) id = some (encs (pageN v (atE es id)), 0, ())) ∨
  ((valid (vs, es, ds, ()) && hasV vs id) = false ∧ f19 (vs, es, ds, ()) id = some (⟨#[]⟩, 60, ())) := by
 unfold f19
 rcases f53_eq vs es ds id h1 h2 h3 with ⟨a1, v, hi, a2, a4⟩ | ⟨a1, a2⟩
 ·have h := ok_of vs es ds a1
  have n2 := h.ne
  refine .inl ⟨a1, v, hi, a2, bind_step a4 ?_⟩
  have := f54_eq (vs, es, ds, ()) v (show es.length ≤ 1000 by omega) h.sE (h.sV _ hi)
  refine bind_step this ?_
  show some (encs (pageN v (atE es v.1)), (0 : Int), ()) = _
  rw [a2]
 ·exact .inr ⟨a1, bind_step a2 rfl⟩
end Go.V.G
namespace Go.V.G
def labs : Int → List Nm → Bool
 | _, [] => true
 | p, x :: l => decide (p < x.1) && decide (x.1 < 24) && decide (x.2.1.length ≤ 64) && labs x.1 l
theorem labs_loop (l : List Nm) (hl : l.length ≤ 1099511627776) : ∀ (m k j : Nat) (p : Int), l.length - j ≤ m → m < k →
  f77_l3 l (l.length : Int) k p (j : Int) = some (bif labs p (l.drop j) then .inl ((), (), ()) else .inr ((false, ()), (), ())) := by
 intro m
 induction m with
 | zero =>
  intro k j p h1 h2
  obtain ⟨k, rfl⟩ : ∃ q, k = q + 1 := ⟨k - 1, by omega⟩
  unfold f77_l3
  rw [decide_eq_false (by omega), List.drop_of_length_le (by omega)]
  rfl
 | succ m ih =>
  intro k j p h1 h2
  obtain ⟨k, rfl⟩ : ∃ q, k = q + 1 := ⟨k - 1, by omega⟩
  by_cases hj : j < l.length
  ·have hget : at_ tM l (j : Int) = l[j] := atN tM l j hj
   unfold f77_l3
   rw [decide_eq_true (by omega), List.drop_eq_getElem_cons hj]
   simp only [cond_true, inRN, decide_eq_true hj, hget, wS j (by omega), labs]
   by_cases c1 : p < l[j].1
   ·by_cases c2 : l[j].1 < 24
    ·by_cases c3 : l[j].2.1.length ≤ 64
     ·rw [decide_eq_false (by omega), decide_eq_false (by omega), decide_eq_false (by omega), decide_eq_true c1, decide_eq_true c2, decide_eq_true c3]
      exact ih k (j + 1) l[j].1 (by omega) (by omega)
     ·rw [decide_eq_false (by omega), decide_eq_false (by omega), decide_eq_true (by omega), decide_eq_true c1, decide_eq_true c2, decide_eq_false c3]
      rfl
    ·rw [decide_eq_false (by omega), decide_eq_true (by omega), decide_eq_true c1, decide_eq_false c2]
     rfl
   ·rw [decide_eq_true (by omega), decide_eq_false c1]
    rfl
  ·unfold f77_l3
   rw [decide_eq_false (by omega), List.drop_of_length_le (by omega)]
   rfl
theorem f77_eq (l : List Nm) (hl : l.length ≤ 1099511627776) : f77 l = some (labs (-1) l, ()) := by
 unfold f77
 have h := labs_loop l hl l.length (((l.length : Int) - (0 : Int)).toNat + 1) 0 (-1) (by omega) (by omega)
 rw [List.drop_zero] at h
 cases hb : labs (-1) l with
 | true => rw [hb] at h; exact bind_step h rfl
 | false => rw [hb] at h; exact bind_step h rfl
theorem f80_eq (l : List Int) (x : Int) (hl : l.length ≤ 1099511627776) : f80 l x = some (decide (x ∈ l), ()) := by
 have key := find_loop2 (.int .i64) (fun v : Int => !decide (x = v)) (fun k j => f126_l2 l x (l.length : Int) k j) (.inl ((), (), ())) (fun i => .inr (((i : Int), ()), (), ())) l (by
  intro k j
  show f126_l2 l x (l.length : Int) (k + 1) (j : Int) = _
  conv => lhs; unfold f126_l2
  by_cases hj : j < l.length
  ·have hget : at_ (.int .i64) l (j : Int) = l[j] := atN (.int .i64) l j hj
   rw [decide_eq_true (by omega), dif_pos hj]
   simp only [cond_true, inRN, decide_eq_true hj, hget, wS j (by omega)]
   by_cases c : x = l[j]
   ·rw [decide_eq_true c]; rfl
   ·rw [decide_eq_false c]; rfl
  ·rw [decide_eq_false (by omega), dif_neg hj]; rfl) l.length (((l.length : Int) - (0 : Int)).toNat + 1) 0 (by omega) (by omega)
 rw [List.drop_zero] at key
 unfold f80 f126
 rcases key with ⟨k1, k2⟩ | ⟨k0, i, hi, _, k1, k3⟩
 ·have : x ∉ l := fun hx => by
   have := List.all_eq_true.1 k1 x hx
   simp at this
  rw [decide_eq_false this]
  exact bind_step (bind_step k2 rfl) rfl
 ·have : x ∈ l := by
   have : x = l[i] := by simpa using k1
   rw [this]
   exact List.getElem_mem hi
  rw [decide_eq_true this]
  refine bind_step (bind_step k3 rfl) ?_
  show some (decide ((i : Int) ≥ 0), ()) = _
  rw [decide_eq_true (by omega)]
end Go.V.G
namespace Go.V.G
def kept (id : Int) (near : List Int) (l : List Nm) : List Nm := l.filter fun x => decide (x.1 = id) || decide (x.1 ∈ near)
theorem fold_kept (id : Int) (near : List Int) : ∀ (l acc : List Nm), l.foldl (fun acc x => if (decide (x.1 = id) || decide (x.1 ∈ near)) = true then acc ++ [x] else acc) acc = acc ++ kept id near l
 | [], acc => by simp [kept]
 | e :: l, acc => by
  have hf : kept id near (e :: l) = if (decide (e.1 = id) || decide (e.1 ∈ near)) = true then e :: kept id near l else kept id near l := by
   unfold kept
   rw [List.filter_cons]
  rw [List.foldl_cons, fold_kept id near l, hf]
  split <;> simp
theorem view_loop (l : List Nm) (hl : l.length ≤ 1000) (hx : ∀ x ∈ l, x.2.1.length ≤ 1000) (z0 z1 v0 v1 : Int) (ds : List Int) (es : List Ed) (id : Int) (near : List Int) (hn : near.length ≤ 1000) (k : Nat) (hk : l.length < k) :
  f34_l7 l (l.length : Int) z0 z1 v0 v1 ds es (near ++ [id]) k 0 [] = some ((), (), ((z0, z1, ()), (v0, v1, ds, es, ()), kept id near l, ())) := by
 have hlp := fold_loop tM (fun (acc : List Nm) (x : Nm) => if (decide (x.1 = id) || decide (x.1 ∈ near)) = true then acc ++ [x] else acc) (fun k j acc => f34_l7 l (l.length : Int) z0 z1 v0 v1 ds es (near ++ [id]) k j acc) (fun r => ((), (), ((z0, z1, ()), (v0, v1, ds, es, ()), r, ()))) (fun j acc => acc.length ≤ j ∧ j ≤ 1000) l (by
  intro k j acc hI
  show f34_l7 l (l.length : Int) z0 z1 v0 v1 ds es (near ++ [id]) (k + 1) (j : Int) acc = _
  conv => lhs; unfold f34_l7
  by_cases hj : j < l.length
  ·have hget : at_ tM l (j : Int) = l[j] := atN tM l j hj
   rw [dif_pos hj, decide_eq_true (by omega)]
   simp only [cond_true, inRN, decide_eq_true hj, hget, wS j (by omega)]
   have h80 := f80_eq (near ++ [id]) l[j].1 (by simp; omega)
   refine bind_step h80 ?_
   have hm : decide (l[j].1 ∈ near ++ [id]) = (decide (l[j].1 = id) || decide (l[j].1 ∈ near)) := by
    rw [Bool.eq_iff_iff]
    simp only [decide_eq_true_eq, Bool.or_eq_true, List.mem_append, List.mem_singleton]
    exact Or.comm
   show (bif decide (l[j].1 ∈ near ++ [id]) then _ else _) = _
   rw [hm]
   cases hb : (decide (l[j].1 = id) || decide (l[j].1 ∈ near)) with
   | false => rfl
   | true =>
    have h78 : f78 l[j].2.1 = some (l[j].2.1, ()) := by
     unfold f78
     have := hx _ (List.getElem_mem hj)
     rw [decide_eq_true (by unfold appLim; omega)]
     rfl
    rw [cond_true]
    refine bind_step h78 ?_
    show (bif (decide (acc.length + ([(l[j].1, l[j].2.1, ())] : List Nm).length ≤ appLim)) then f34_l7 l (l.length : Int) z0 z1 v0 v1 ds es (near ++ [id]) k ((j + 1 : Nat) : Int) (acc ++ [(l[j].1, l[j].2.1, ())]) else none) = _
    rw [appOk _ _ (by simp; omega)]
    rfl
  ·rw [dif_neg hj, decide_eq_false (by omega)]
   rfl) (by
  intro j acc hj hI
  show (if (decide (l[j].1 = id) || decide (l[j].1 ∈ near)) = true then acc ++ [l[j]] else acc).length ≤ j + 1 ∧ j + 1 ≤ 1000
  split
  ·simp; omega
  ·omega)
 have h2 := hlp l.length k 0 [] (by omega) hk ⟨by simp, by omega⟩
 rw [List.drop_zero, fold_kept] at h2
 exact h2
theorem view_p (vs : List Vx) (es : List Ed) (ds : List Int) (l : List Nm) (id : Int) (h1 : vs.length ≤ 1099511627776) (h2 : es.length ≤ 1099511627776) (h3 : ds.length ≤ 1099511627776) (hl : l.length ≤ 1000) (hx : ∀ x ∈ l, x.2.1.length ≤ 1000) :
  (valid (vs, es, ds, ()) = true ∧ labs (-1) l = true ∧ ∃ v ∈ vs, v.1 = id ∧ f34 (vs, es, ds, ()) l id = some ((v, ds, atE es id, kept id (nb id (atE es id)) l, ()), 0, ())) ∨
  ((valid (vs, es, ds, ()) && hasV vs id && labs (-1) l) = false ∧ f34 (vs, es, ds, ()) l id = some (((0, 0, ()), [], [], [], ()), 60, ())) := by
 have h77 := f77_eq l (by omega)
 unfold f34
 rcases f53_eq vs es ds id h1 h2 h3 with ⟨a1, v, hi, a2, a4⟩ | ⟨a1, a2⟩
 ·have h := ok_of vs es ds a1
  have n2 := h.ne
  have n3 := h.dl
  cases hb : labs (-1) l with
  | false =>
   rw [hb] at h77
   exact .inr ⟨by simp, bind_step a4 (bind_step h77 rfl)⟩
  | true =>
   rw [hb] at h77
   have hlen := atE_len es id
   have hnb := nb_len id (atE es id)
   refine .inl ⟨a1, rfl, v, hi, a2, bind_step a4 (bind_step h77 ?_)⟩
   have h78 : f78 ds = some (ds, ()) := by
    unfold f78
    rw [decide_eq_true (by unfold appLim; omega)]
    rfl
   refine bind_step h78 ?_
   refine bind_step (f79_eq (vs, es, ds, ()) (show es.length ≤ 1000000 by omega) id) ?_
   refine bind_step (f31_eq id (atE es id) (by omega)) ?_
   rw [appOk _ _ (by simp; omega), cond_true]
   refine bind_step (view_loop l hl hx 0 0 v.1 v.2.1 ds (atE es id) id (nb id (atE es id)) (by omega) _ (by omega)) ?_
   rfl
 ·exact .inr ⟨by rw [a1]; rfl, bind_step a2 rfl⟩
end Go.V.G
namespace Go.V.G
theorem same_all {R α : Type} [DecidableEq α] (a b : List α) (n : Nat) (ha : a.length = n) (hb : b.length = n) (F : Nat → Int → Option R) (yes no : R)
  (hF : ∀ k (j : Nat), F (k + 1) (j : Int) = if h : j < n then (if a[j]'(by omega) = b[j]'(by omega) then F k ((j + 1 : Nat) : Int) else some no) else some yes) (k : Nat) (hk : n < k) :
  F k 0 = some (if a = b then yes else no) := by
 rcases idx_loop n (fun j => if h : j < n then decide (a[j]'(by omega) = b[j]'(by omega)) else true) F yes no (by
  intro k j
  rw [hF k j]
  by_cases h : j < n
  ·rw [dif_pos h, if_pos h]
   simp only [h, dite_true, decide_eq_true_eq]
  ·rw [dif_neg h, if_neg h]) n k 0 (by omega) hk with ⟨h1, h2⟩ | ⟨⟨i, _, h1, h2⟩, h3⟩
 ·rw [if_pos]
  ·exact h2
  ·refine List.ext_getElem (by omega) fun i h3 h4 => ?_
   have := h1 i (Nat.zero_le _) (by omega)
   simpa [show i < n by omega] using this
 ·rw [if_neg]
  ·exact h3
  ·intro e
   subst e
   simp [h1] at h2
instance decB : DecidableEq (Bool × Int × Int × Unit) := inferInstance
instance decB2 : DecidableEq (Int × Int × Bool × Int × Int × Unit) := inferInstance
instance decEd : DecidableEq Ed := @instDecidableEqProd Int (Int × Int × Bool × Int × Int × Unit) _ decB2
theorem ed_eq (x y : Ed) : (decide (x.1 = y.1) && (decide (x.2.1 = y.2.1) && (decide (x.2.2.1 = y.2.2.1) && (decide (x.2.2.2.1 = y.2.2.2.1) && (decide (x.2.2.2.2.1 = y.2.2.2.2.1) && (decide (x.2.2.2.2.2.1 = y.2.2.2.2.2.1) && true)))))) = decide (x = y) := by
 obtain ⟨a, b, c, d, e, f, u⟩ := x
 obtain ⟨a', b', c', d', e', f', u'⟩ := y
 rw [Bool.eq_iff_iff]
 simp [Prod.ext_iff]
theorem vx_eq (x y : Vx) : (decide (x.1 = y.1) && (decide (x.2.1 = y.2.1) && true)) = decide (x = y) := by
 obtain ⟨a, b, u⟩ := x
 obtain ⟨a', b', u'⟩ := y
 rw [Bool.eq_iff_iff]
 simp [Prod.ext_iff]
theorem f30_eq (a b : List Int) (ha : a.length ≤ 1099511627776) : f30 a b = some (decide (a = b), ()) := by
 unfold f30
 by_cases h : a.length = b.length
 ·rw [decide_eq_false (by simp; omega), cond_false]
  have hs := same_all a b a.length rfl h.symm (fun k j => f30_l4 a b k j) (.inl ((), (), ())) (.inr ((false, ()), (), ())) (by
   intro k j
   show f30_l4 a b (k + 1) (j : Int) = _
   conv => lhs; unfold f30_l4
   by_cases hj : j < a.length
   ·have g1 : at_ (.int .i64) a (j : Int) = a[j] := atN (.int .i64) a j hj
    have g2 : at_ (.int .i64) b (j : Int) = b[j]'(by omega) := atN (.int .i64) b j (by omega)
    rw [dif_pos hj, decide_eq_true (by omega)]
    simp only [cond_true, inRN, decide_eq_true hj, decide_eq_true (show j < b.length by omega), g1, g2, wS j (by omega)]
    by_cases he : a[j] = b[j]'(by omega)
    ·rw [decide_eq_false (by simp [he]), if_pos he]; rfl
    ·rw [decide_eq_true he, if_neg he]; rfl
   ·rw [dif_neg hj, decide_eq_false (by omega)]; rfl) (((a.length : Int) - (0 : Int)).toNat + 1) (by omega)
  by_cases e : a = b
  ·rw [decide_eq_true e]; exact bind_step (hs.trans (congrArg some (if_pos e))) rfl
  ·rw [decide_eq_false e]; exact bind_step (hs.trans (congrArg some (if_neg e))) rfl
 ·rw [decide_eq_true (by simp; omega), cond_true, decide_eq_false (fun e => h (by rw [e]))]
theorem edges_eq29 (a b : List Ed) (ha : a.length ≤ 1099511627776) : f29 a b = some (decide (a = b), ()) := by
 unfold f29
 by_cases h : a.length = b.length
 ·rw [decide_eq_false (by simp; omega), cond_false]
  have hs := same_all a b a.length rfl h.symm (fun k j => f29_l4 a b k j) (.inl ((), (), ())) (.inr ((false, ()), (), ())) (by
   intro k j
   show f29_l4 a b (k + 1) (j : Int) = _
   conv => lhs; unfold f29_l4
   by_cases hj : j < a.length
   ·have g1 : at_ tE a (j : Int) = a[j] := atN tE a j hj
    have g2 : at_ tE b (j : Int) = b[j]'(by omega) := atN tE b j (by omega)
    rw [dif_pos hj, decide_eq_true (by omega)]
    simp only [cond_true, inRN, decide_eq_true hj, decide_eq_true (show j < b.length by omega), g1, g2, wS j (by omega), ed_eq]
    by_cases he : a[j] = b[j]'(by omega)
    ·rw [decide_eq_true he, if_pos he]; rfl
    ·rw [decide_eq_false he, if_neg he]; rfl
   ·rw [dif_neg hj, decide_eq_false (by omega)]; rfl) (((a.length : Int) - (0 : Int)).toNat + 1) (by omega)
  by_cases e : a = b
  ·rw [decide_eq_true e]; exact bind_step (hs.trans (congrArg some (if_pos e))) rfl
  ·rw [decide_eq_false e]; exact bind_step (hs.trans (congrArg some (if_neg e))) rfl
 ·rw [decide_eq_true (by simp; omega), cond_true, decide_eq_false (fun e => h (by rw [e]))]
theorem f24_eq (va vb : List Vx) (ea eb : List Ed) (da db : List Int) (h1 : va.length ≤ 1099511627776) (h2 : ea.length ≤ 1099511627776) (h3 : da.length ≤ 1099511627776) : f24 (va, ea, da, ()) (vb, eb, db, ()) = some (decide (va = vb) && (decide (ea = eb) && decide (da = db)), ()) := by
 unfold f24
 by_cases h : va.length = vb.length
 ·simp only
  rw [decide_eq_false (by simp; omega), cond_false]
  refine bind_step (edges_eq29 ea eb h2) ?_
  by_cases c1 : ea = eb
  ·simp only [decide_eq_true c1, Bool.not_true, cond_false]
   refine bind_step (f30_eq da db h3) ?_
   by_cases c2 : da = db
   ·simp only [decide_eq_true c2, Bool.not_true, cond_false]
    have hs := same_all va vb va.length rfl h.symm (fun k j => f24_l4 va ea da vb eb db k j) (.inl ((), (), ())) (.inr ((false, ()), (), ())) (by
     intro k j
     show f24_l4 va ea da vb eb db (k + 1) (j : Int) = _
     conv => lhs; unfold f24_l4
     by_cases hj : j < va.length
     ·have g1 : at_ tV va (j : Int) = va[j] := atN tV va j hj
      have g2 : at_ tV vb (j : Int) = vb[j]'(by omega) := atN tV vb j (by omega)
      rw [dif_pos hj, decide_eq_true (by omega)]
      simp only [cond_true, inRN, decide_eq_true hj, decide_eq_true (show j < vb.length by omega), g1, g2, wS j (by omega), vx_eq]
      by_cases he : va[j] = vb[j]'(by omega)
      ·rw [decide_eq_true he, if_pos he]; rfl
      ·rw [decide_eq_false he, if_neg he]; rfl
     ·rw [dif_neg hj, decide_eq_false (by omega)]; rfl) (((va.length : Int) - (0 : Int)).toNat + 1) (by omega)
    by_cases e : va = vb
    ·rw [decide_eq_true e]; exact bind_step (hs.trans (congrArg some (if_pos e))) rfl
    ·rw [decide_eq_false e]; exact bind_step (hs.trans (congrArg some (if_neg e))) rfl
   ·simp only [decide_eq_false c2, Bool.not_false, cond_true]
    rw [Bool.and_false, Bool.and_false]
  ·simp only [decide_eq_false c1, Bool.not_false, cond_true]
   rw [Bool.false_and, Bool.and_false]
 ·simp only
  rw [decide_eq_true (by simp; omega), cond_true, decide_eq_false (fun e : va = vb => h (by rw [e])), Bool.false_and]
end Go.V.G
namespace Go.V.G
def f10G (F13 : tysDen f13_spec.args → Option (tysDen f13_spec.res)) (F15 : tysDen f15_spec.args → Option (tysDen f15_spec.res)) (F19 : tysDen f19_spec.args → Option (tysDen f19_spec.res)) (F22 : tysDen f22_spec.args → Option (tysDen f22_spec.res)) (F24 : tysDen f24_spec.args → Option (tysDen f24_spec.res)) (F25 : tysDen f25_spec.args → Option (tysDen f25_spec.res)) (F27 : tysDen f27_spec.args → Option (tysDen f27_spec.res)) (F30 : tysDen f30_spec.args → Option (tysDen f30_spec.res)) (pF31 : tysDen pf31_spec.args → Option (tysDen pf31_spec.res)) (F34 : tysDen f34_spec.args → Option (tysDen f34_spec.res)) : Option (Bool × Unit) :=
 (F19 ((([((0 : Int), (0, ())), ((2 : Int), ((1 : Int), ()))] : List Vx), (([((1 : Int), ((2 : Int), ((0 : Int), (true, ((7 : Int), ((1 : Int), ())))))), ((3 : Int), ((2 : Int), ((2 : Int), (false, (0, (0, ()))))))] : List Ed), (([(0 : Int)] : List Int), ()))), ((0 : Int), ()))).bind fun y1 =>
 (F19 ((([((0 : Int), (0, ())), ((2 : Int), ((1 : Int), ()))] : List Vx), (([((1 : Int), ((2 : Int), ((0 : Int), (true, ((7 : Int), ((1 : Int), ())))))), ((3 : Int), ((2 : Int), ((2 : Int), (false, (0, (0, ()))))))] : List Ed), (([(0 : Int)] : List Int), ()))), ((1 : Int), ()))).bind fun y2 =>
 (F25 (y1.1, ())).bind fun y3 =>
 (F13 ((([((0 : Int), (0, ())), ((2 : Int), ((1 : Int), ()))] : List Vx), (([((1 : Int), ((2 : Int), ((0 : Int), (true, ((7 : Int), ((1 : Int), ())))))), ((3 : Int), ((2 : Int), ((2 : Int), (false, (0, (0, ()))))))] : List Ed), (([(0 : Int)] : List Int), ()))), ())).bind fun y4 =>
 (F15 ((([((0 : Int), (0, ())), ((2 : Int), ((1 : Int), ()))] : List Vx), (([((1 : Int), ((2 : Int), ((0 : Int), (true, ((7 : Int), ((1 : Int), ())))))), ((3 : Int), ((2 : Int), ((2 : Int), (false, (0, (0, ()))))))] : List Ed), (([(0 : Int)] : List Int), ()))), ())).bind fun y5 =>
 (F22 (y4.1, ())).bind fun y6 =>
 (F34 ((([((0 : Int), (0, ())), ((2 : Int), ((1 : Int), ()))] : List Vx), (([((1 : Int), ((2 : Int), ((0 : Int), (true, ((7 : Int), ((1 : Int), ())))))), ((3 : Int), ((2 : Int), ((2 : Int), (false, (0, (0, ()))))))] : List Ed), (([(0 : Int)] : List Int), ()))), (([((0 : Int), (([(5 : Int)] : List Int), ())), ((1 : Int), (([(6 : Int)] : List Int), ())), ((2 : Int), (([(7 : Int)] : List Int), ()))] : List Nm), ((0 : Int), ())))).bind fun y7 =>
 bif (decide (y1.2.1 ≠ (0 : Int))) then
  some (false, ())
 else
  bif (decide (y2.2.1 ≠ (60 : Int))) then
   some (false, ())
  else
   bif (decide (y3.2.2.1 ≠ (0 : Int))) then
    some (false, ())
   else
    bif (decide (y4.2.1 ≠ (0 : Int))) then
     some (false, ())
    else
     bif (decide (y5.2.1 ≠ (0 : Int))) then
      some (false, ())
     else
      bif (decide (y6.2.1 ≠ (0 : Int))) then
       some (false, ())
      else
       bif (decide (y7.2.1 ≠ (0 : Int))) then
        some (false, ())
       else
        let v8 : Bool := (decide ((y4.1.length : Int) ≠ (3 : Int)))
        bif v8 then
         some (false, ())
        else
         let v9 : Bool := (decide ((y3.2.1.length : Int) ≠ (1 : Int)))
         bif v9 then
          some (false, ())
         else
          let v10 : Bool := (decide ((y7.1.2.2.2.1.length : Int) ≠ (2 : Int)))
          bif v10 then
           some (false, ())
          else
           let v11 : Bool := (decide ((y5.1.size : Int) ≠ (32 : Int)))
           bif v11 then
            some (false, ())
           else
            bif (inR (2 : Int) y4.1.length) then
             let v12 : ByteArray := (at_ tN y4.1 (2 : Int)).2.1
             (F27 (v12, ())).bind fun y13 =>
             (pF31 ((2 : Int), (([((1 : Int), ((2 : Int), ((0 : Int), (true, ((7 : Int), ((1 : Int), ())))))), ((3 : Int), ((2 : Int), ((2 : Int), (false, (0, (0, ()))))))] : List Ed), ()))).bind fun y14 =>
             let v15 : Bool := (decide (y1.1 = (⟨#[0, 0, 2, 2, 4, 0, 2, 14, 2]⟩ : ByteArray)))
             bif v15 then
              bif (inR (0 : Int) y4.1.length) then
               let v16 : ByteArray := (at_ tN y4.1 (0 : Int)).2.1
               bif (decide (v16 = y1.1)) then
                bif (inR (2 : Int) y4.1.length) then
                 let v17 : Int := (at_ tN y4.1 (2 : Int)).1
                 bif (decide (v17 = (63 : Int))) then
                  bif (inR (2 : Int) y4.1.length) then
                   let v18 : ByteArray := (at_ tN y4.1 (2 : Int)).2.1
                   let v19 : Bool := (decide (v18 = (⟨#[2, 0, 20]⟩ : ByteArray)))
                   bif v19 then
                    bif (inR (0 : Int) ([((0 : Int), (0, ())), ((2 : Int), ((1 : Int), ()))] : List Vx).length) then
                     let v20 : Bool := (decide (y3.1.1 = (at_ tV ([((0 : Int), (0, ())), ((2 : Int), ((1 : Int), ()))] : List Vx) (0 : Int)).1) && (decide (y3.1.2.1 = (at_ tV ([((0 : Int), (0, ())), ((2 : Int), ((1 : Int), ()))] : List Vx) (0 : Int)).2.1) && true))
                     bif v20 then
                      bif (inR (0 : Int) y3.2.1.length) then
                       bif (inR (0 : Int) ([((1 : Int), ((2 : Int), ((0 : Int), (true, ((7 : Int), ((1 : Int), ())))))), ((3 : Int), ((2 : Int), ((2 : Int), (false, (0, (0, ()))))))] : List Ed).length) then
                        let v21 : Bool := (decide ((at_ tE y3.2.1 (0 : Int)).1 = (at_ tE ([((1 : Int), ((2 : Int), ((0 : Int), (true, ((7 : Int), ((1 : Int), ())))))), ((3 : Int), ((2 : Int), ((2 : Int), (false, (0, (0, ()))))))] : List Ed) (0 : Int)).1) && (decide ((at_ tE y3.2.1 (0 : Int)).2.1 = (at_ tE ([((1 : Int), ((2 : Int), ((0 : Int), (true, ((7 : Int), ((1 : Int), ())))))), ((3 : Int), ((2 : Int), ((2 : Int), (false, (0, (0, ()))))))] : List Ed) (0 : Int)).2.1) && (decide ((at_ tE y3.2.1 (0 : Int)).2.2.1 = (at_ tE ([((1 : Int), ((2 : Int), ((0 : Int), (true, ((7 : Int), ((1 : Int), ())))))), ((3 : Int), ((2 : Int), ((2 : Int), (false, (0, (0, ()))))))] : List Ed) (0 : Int)).2.2.1) && (decide ((at_ tE y3.2.1 (0 : Int)).2.2.2.1 = (at_ tE ([((1 : Int), ((2 : Int), ((0 : Int), (true, ((7 : Int), ((1 : Int), ())))))), ((3 : Int), ((2 : Int), ((2 : Int), (false, (0, (0, ()))))))] : List Ed) (0 : Int)).2.2.2.1) && (decide ((at_ tE y3.2.1 (0 : Int)).2.2.2.2.1 = (at_ tE ([((1 : Int), ((2 : Int), ((0 : Int), (true, ((7 : Int), ((1 : Int), ())))))), ((3 : Int), ((2 : Int), ((2 : Int), (false, (0, (0, ()))))))] : List Ed) (0 : Int)).2.2.2.2.1) && (decide ((at_ tE y3.2.1 (0 : Int)).2.2.2.2.2.1 = (at_ tE ([((1 : Int), ((2 : Int), ((0 : Int), (true, ((7 : Int), ((1 : Int), ())))))), ((3 : Int), ((2 : Int), ((2 : Int), (false, (0, (0, ()))))))] : List Ed) (0 : Int)).2.2.2.2.2.1) && true))))))
                        bif v21 then
                         bif (decide (y13.2.2.1 = (0 : Int))) then
                          bif (decide (y13.2.1 = (10 : Int))) then
                           (F30 (y13.1, (([(0 : Int)] : List Int), ()))).bind fun y22 =>
                           bif y22.1 then
                            (F30 (y14.1, (([(0 : Int)] : List Int), ()))).bind fun y23 =>
                            bif y23.1 then
                             (F24 (y6.1, ((([((0 : Int), (0, ())), ((2 : Int), ((1 : Int), ()))] : List Vx), (([((1 : Int), ((2 : Int), ((0 : Int), (true, ((7 : Int), ((1 : Int), ())))))), ((3 : Int), ((2 : Int), ((2 : Int), (false, (0, (0, ()))))))] : List Ed), (([(0 : Int)] : List Int), ()))), ()))).bind fun y24 =>
                             bif y24.1 then
                              bif (inR (1 : Int) y7.1.2.2.2.1.length) then
                               let v25 : Int := (at_ tM y7.1.2.2.2.1 (1 : Int)).1
                               some ((decide (v25 = (2 : Int))), ())
                              else none
                             else
                              some (false, ())
                            else
                             some (false, ())
                           else
                            some (false, ())
                          else
                           some (false, ())
                         else
                          some (false, ())
                        else
                         some (false, ())
                       else none
                      else none
                     else
                      some (false, ())
                    else none
                   else
                    some (false, ())
                  else none
                 else
                  some (false, ())
                else none
               else
                some (false, ())
              else none
             else
              some (false, ())
            else none
def f10 : Option (Bool × Unit) := f10G f13_spec.fn f15_spec.fn f19_spec.fn f22_spec.fn f24_spec.fn f25_spec.fn f27_spec.fn f30_spec.fn pf31_spec.fn f34_spec.fn
def f10_spec : PSpec := { args := [], res := [.bool], fn := fun x => f10  }
noncomputable def f10_code : Code := Go.Proofs.Tryz.f10.body.getD .skip
noncomputable def f10_envG (F13 : tysDen f13_spec.args → Option (tysDen f13_spec.res)) (F15 : tysDen f15_spec.args → Option (tysDen f15_spec.res)) (F19 : tysDen f19_spec.args → Option (tysDen f19_spec.res)) (F22 : tysDen f22_spec.args → Option (tysDen f22_spec.res)) (F24 : tysDen f24_spec.args → Option (tysDen f24_spec.res)) (F25 : tysDen f25_spec.args → Option (tysDen f25_spec.res)) (F27 : tysDen f27_spec.args → Option (tysDen f27_spec.res)) (F30 : tysDen f30_spec.args → Option (tysDen f30_spec.res)) (pF31 : tysDen pf31_spec.args → Option (tysDen pf31_spec.res)) (F34 : tysDen f34_spec.args → Option (tysDen f34_spec.res)) : Env0 := { C := cfg, P := [(13, { args := f13_spec.args, res := f13_spec.res, fn := F13 }), (15, { args := f15_spec.args, res := f15_spec.res, fn := F15 }), (19, { args := f19_spec.args, res := f19_spec.res, fn := F19 }), (22, { args := f22_spec.args, res := f22_spec.res, fn := F22 }), (24, { args := f24_spec.args, res := f24_spec.res, fn := F24 }), (25, { args := f25_spec.args, res := f25_spec.res, fn := F25 }), (27, { args := f27_spec.args, res := f27_spec.res, fn := F27 }), (30, { args := f30_spec.args, res := f30_spec.res, fn := F30 }), (31, { args := pf31_spec.args, res := pf31_spec.res, fn := pF31 }), (34, { args := f34_spec.args, res := f34_spec.res, fn := F34 })], L := [], F := [(10, Go.Proofs.Tryz.f10)], S := [], R := [], I := [], tot := [] }
theorem f10_runG (F13 : tysDen f13_spec.args → Option (tysDen f13_spec.res)) (F15 : tysDen f15_spec.args → Option (tysDen f15_spec.res)) (F19 : tysDen f19_spec.args → Option (tysDen f19_spec.res)) (F22 : tysDen f22_spec.args → Option (tysDen f22_spec.res)) (F24 : tysDen f24_spec.args → Option (tysDen f24_spec.res)) (F25 : tysDen f25_spec.args → Option (tysDen f25_spec.res)) (F27 : tysDen f27_spec.args → Option (tysDen f27_spec.res)) (F30 : tysDen f30_spec.args → Option (tysDen f30_spec.res)) (pF31 : tysDen pf31_spec.args → Option (tysDen pf31_spec.res)) (F34 : tysDen f34_spec.args → Option (tysDen f34_spec.res)) (x : tysDen (f10_spec).args) : runF (f10_envG F13 F15 F19 F22 F24 F25 F27 F30 pF31 F34) 10 Go.Proofs.Tryz.f10 f10_code (f10_spec).args (f10_spec).res x = f10G F13 F15 F19 F22 F24 F25 F27 F30 pF31 F34 := by kernel_rfl
noncomputable def f10_env : Env0 := f10_envG f13_spec.fn f15_spec.fn f19_spec.fn f22_spec.fn f24_spec.fn f25_spec.fn f27_spec.fn f30_spec.fn pf31_spec.fn f34_spec.fn
theorem f10_run (x : tysDen (f10_spec).args) : runF f10_env 10 Go.Proofs.Tryz.f10 f10_code (f10_spec).args (f10_spec).res x = f10_spec.fn x := f10_runG f13_spec.fn f15_spec.fn f19_spec.fn f22_spec.fn f24_spec.fn f25_spec.fn f27_spec.fn f30_spec.fn pf31_spec.fn f34_spec.fn x
theorem f10_enter : Enterable Go.Proofs.Tryz.prog 10 := enter_fun Go.Proofs.Tryz.func10 (by kernel_rfl)
theorem f10_envOK : EnvOK Go.Proofs.Tryz.prog f10_env := envOK_of cds (by kernel_rfl) cfg_ok ⟨⟨f13_pure, f13_enter⟩, ⟨f15_pure, f15_enter⟩, ⟨f19_pure, f19_enter⟩, ⟨f22_pure, f22_enter⟩, ⟨f24_pure, f24_enter⟩, ⟨f25_pure, f25_enter⟩, ⟨f27_pure, f27_enter⟩, ⟨f30_pure, f30_enter⟩, ⟨pf31_pure, pf31_enter⟩, ⟨f34_pure, f34_enter⟩, trivial⟩ trivial ⟨⟨Go.Proofs.Tryz.func10, by kernel_rfl⟩, trivial⟩ trivial trivial trivial
theorem f10_pure : PureOK Go.Proofs.Tryz.prog cfg 10 f10_spec := pure_of_run f10_envOK (fn := Go.Proofs.Tryz.f10) (c := f10_code) rfl rfl f10_spec (fun x _ h => (f10_run x).trans h)
end Go.V.G
namespace Go.V.G
def exV : List Vx := [(0, 0, ()), (2, 1, ())]
def exE : List Ed := [(1, 2, 0, true, 7, 1, ()), (3, 2, 2, false, 0, 0, ())]
def exL : List Nm := [(0, [5], ()), (1, [6], ()), (2, [7], ())]
theorem ex_valid : valid (exV, exE, [0], ()) = true := by decide
theorem encs_is : ∀ (l : List Int) (zs : List Nat), l.map zig = zs → (∀ z ∈ zs, z < 128) → nbytes (encs l) = zs
 | [], zs, h, _ => by subst h; rfl
 | n :: l, zs, h, hz => by
  subst h
  have h1 := hz (zig n) (by simp)
  show nbytes (enc n ++ encs l) = _
  rw [nbytes_app, nbytes_enc, grpN_lt h1, encs_is l (l.map zig) rfl (fun z hz' => hz z (by simp at hz' ⊢; exact .inr hz'))]
  rfl
theorem ex_page : encs (pageN (0, 0, ()) (atE exE 0)) = (⟨#[0, 0, 2, 2, 4, 0, 2, 14, 2]⟩ : ByteArray) := by
 apply nbytes_inj
 rw [encs_is _ [0, 0, 2, 2, 4, 0, 2, 14, 2] (by decide) (by decide)]
 decide
theorem ex_head : encs (headN exE [0]) = (⟨#[2, 0, 20]⟩ : ByteArray) := by
 apply nbytes_inj
 rw [encs_is _ [2, 0, 20] (by decide) (by decide)]
 decide
theorem root15 {vs es ds} (hv : valid (vs, es, ds, ()) = true) : f15 (vs, es, ds, ()) = some (rootD (entsG vs es ds), 0, ()) := by
 have h := ok_of _ _ _ hv
 unfold f15
 refine bind_step (entries_p vs es ds hv) ?_
 refine bind_step (f13_eq (ents_valid h)) ?_
 rfl
theorem ex_root : (rootD (entsG exV exE [0])).size = 32 := by
 have h := ok_of _ _ _ ex_valid
 exact D_size (fun e he => ((ents_valid h).val e he).2) 6 0
theorem sane_run (F13 : tysDen f13_spec.args → Option (tysDen f13_spec.res)) (F15 : tysDen f15_spec.args → Option (tysDen f15_spec.res)) (F19 : tysDen f19_spec.args → Option (tysDen f19_spec.res)) (F22 : tysDen f22_spec.args → Option (tysDen f22_spec.res)) (F24 : tysDen f24_spec.args → Option (tysDen f24_spec.res)) (F25 : tysDen f25_spec.args → Option (tysDen f25_spec.res)) (F27 : tysDen f27_spec.args → Option (tysDen f27_spec.res)) (F30 : tysDen f30_spec.args → Option (tysDen f30_spec.res)) (pF31 : tysDen pf31_spec.args → Option (tysDen pf31_spec.res)) (F34 : tysDen f34_spec.args → Option (tysDen f34_spec.res))
  (p2 r : ByteArray) (hr : r.size = 32)
  (h19a : F19 ((exV, exE, [0], ()), 0, ()) = some ((⟨#[0, 0, 2, 2, 4, 0, 2, 14, 2]⟩ : ByteArray), (0 : Int), ()))
  (h19b : F19 ((exV, exE, [0], ()), 1, ()) = some ((⟨#[]⟩ : ByteArray), (60 : Int), ()))
  (h25 : F25 ((⟨#[0, 0, 2, 2, 4, 0, 2, 14, 2]⟩ : ByteArray), ()) = some (((0, 0, ()) : Vx), ([(1, 2, 0, true, 7, 1, ())] : List Ed), (0 : Int), ()))
  (h13 : F13 ((exV, exE, [0], ()), ()) = some (([(0, (⟨#[0, 0, 2, 2, 4, 0, 2, 14, 2]⟩ : ByteArray), ()), (2, p2, ()), (63, (⟨#[2, 0, 20]⟩ : ByteArray), ())] : List En), (0 : Int), ()))
  (h15 : F15 ((exV, exE, [0], ()), ()) = some (r, (0 : Int), ()))
  (h22 : F22 (([(0, (⟨#[0, 0, 2, 2, 4, 0, 2, 14, 2]⟩ : ByteArray), ()), (2, p2, ()), (63, (⟨#[2, 0, 20]⟩ : ByteArray), ())] : List En), ()) = some ((exV, exE, [0], ()), (0 : Int), ()))
  (h34 : F34 ((exV, exE, [0], ()), exL, 0, ()) = some ((((0, 0, ()) : Vx), ([0] : List Int), ([(1, 2, 0, true, 7, 1, ())] : List Ed), ([(0, [5], ()), (2, [7], ())] : List Nm), ()), (0 : Int), ()))
  (h27 : F27 ((⟨#[2, 0, 20]⟩ : ByteArray), ()) = some (([0] : List Int), (10 : Int), (0 : Int), ()))
  (h31 : pF31 (2, exE, ()) = some (([0] : List Int), ()))
  (h30 : F30 ([0], [0], ()) = some (true, ()))
  (h24 : F24 ((exV, exE, [0], ()), (exV, exE, [0], ()), ()) = some (true, ())) :
  f10G F13 F15 F19 F22 F24 F25 F27 F30 pF31 F34 = some (true, ()) := by
 unfold f10G
 refine bind_step h19a ?_
 refine bind_step h19b ?_
 refine bind_step h25 ?_
 refine bind_step h13 ?_
 refine bind_step h15 ?_
 refine bind_step h22 ?_
 refine bind_step h34 ?_
 show (bif decide ((r.size : Int) ≠ 32) then some (false, ()) else Option.bind (F27 ((⟨#[2, 0, 20]⟩ : ByteArray), ())) _) = _
 rw [decide_eq_false (by omega), cond_false]
 refine bind_step h27 ?_
 refine bind_step h31 ?_
 refine bind_step h30 ?_
 refine bind_step h30 ?_
 refine bind_step h24 ?_
 rfl
theorem sane_eq : f10 = some (true, ()) := by
 have hok := ok_of _ _ _ ex_valid
 have h19a : f19 (exV, exE, [0], ()) 0 = some (encs (pageN (0, 0, ()) (atE exE 0)), 0, ()) := by
  rcases page_p exV exE [0] 0 (by decide) (by decide) (by decide) with ⟨_, v, hv, h1, h2⟩ | ⟨h1, _⟩
  ·have : v = (0, 0, ()) := by
    rcases List.mem_cons.1 hv with rfl | hv
    ·rfl
    ·rw [List.mem_singleton.1 hv] at h1; cases h1
   rw [h2, this]
  ·exact absurd h1 (by decide)
 have h19b : f19 (exV, exE, [0], ()) 1 = some (⟨#[]⟩, 60, ()) := by
  rcases page_p exV exE [0] 1 (by decide) (by decide) (by decide) with ⟨_, v, hv, h1, h2⟩ | ⟨_, h1⟩
  ·rcases List.mem_cons.1 hv with rfl | hv
   ·cases h1
   ·rw [List.mem_singleton.1 hv] at h1; cases h1
  ·exact h1
 have h25 : f25 (encs (pageN (0, 0, ()) (atE exE 0))) = some ((0, 0, ()), atE exE 0, 0, ()) := by
  have hp := parse_row hok (v := (0, 0, ())) (by decide)
  have hp' : parse (nbytes (encs (pageN (0, 0, ()) (atE exE 0)))) = some ((0, 0, ()), atE exE 0) := hp
  rw [f25_eq _ (by rw [ex_page]; decide), hp']
  rfl
 have h13 := entries_p exV exE [0] ex_valid
 have h15 := root15 ex_valid
 have h22 := join_yes ex_valid
 have h34 : f34 (exV, exE, [0], ()) exL 0 = some (((0, 0, ()), [0], atE exE 0, kept 0 (nb 0 (atE exE 0)) exL, ()), 0, ()) := by
  rcases view_p exV exE [0] exL 0 (by decide) (by decide) (by decide) (by decide) (by decide) with ⟨_, _, v, hv, h1, h2⟩ | ⟨h1, _⟩
  ·have : v = (0, 0, ()) := by
    rcases List.mem_cons.1 hv with rfl | hv
    ·rfl
    ·rw [List.mem_singleton.1 hv] at h1; cases h1
   rw [h2, this]
  ·exact absurd h1 (by decide)
 have nb0 : nb 0 (atE exE 0) = [2] := by
  refine asc_ext kI _ _ (nb_asc _ _) (by decide) fun x => ?_
  rw [nb_mem]
  constructor
  ·rintro ⟨h1, e, he, _, h2⟩
   have : e = (1, 2, 0, true, 7, 1, ()) := by
    have : e ∈ [(1, 2, 0, true, 7, 1, ())] := he
    exact List.mem_singleton.1 this
   subst this
   rw [← h2]
   decide
  ·intro h
   rw [List.mem_singleton] at h
   subst h
   exact ⟨by decide, (1, 2, 0, true, 7, 1, ()), by decide, by decide, by decide⟩
 have nb2 : nb 2 exE = [0] := by
  refine asc_ext kI _ _ (nb_asc _ _) (by decide) fun x => ?_
  rw [nb_mem]
  constructor
  ·rintro ⟨h1, e, he, _, h2⟩
   rcases List.mem_cons.1 he with rfl | he
   ·rw [← h2]; decide
   ·rw [List.mem_singleton.1 he] at h2
    exact absurd h2.symm h1
  ·intro h
   rw [List.mem_singleton] at h
   subst h
   exact ⟨by decide, (1, 2, 0, true, 7, 1, ()), by decide, by decide, by decide⟩
 have h27 : f27 (encs (headN exE [0])) = some ([0], 10, 0, ()) := by
  rw [f27_eq _ (by rw [ex_head]; decide), parseH_head hok]
  decide
 have h31 : pf31 2 exE = some ([0], ()) := by rw [pf31_eq 2 exE (by decide), nb2]
 have h30 : f30 [0] [0] = some (true, ()) := by rw [f30_eq _ _ (by decide)]; rfl
 have h24 : f24 (exV, exE, [0], ()) (exV, exE, [0], ()) = some (true, ()) := by
  rw [f24_eq _ _ _ _ _ _ (by decide) (by decide) (by decide)]
  simp
 have ha : atE exE 0 = [(1, 2, 0, true, 7, 1, ())] := by decide
 have hk : kept 0 [2] exL = [(0, [5], ()), (2, [7], ())] := by decide
 have he : entsG exV exE [0] = [(0, (⟨#[0, 0, 2, 2, 4, 0, 2, 14, 2]⟩ : ByteArray), ()), (2, encs (pageN (2, 1, ()) (atE exE 2)), ()), (63, (⟨#[2, 0, 20]⟩ : ByteArray), ())] := by
  rw [← ex_page, ← ex_head]
  rfl
 rw [ex_page] at h19a h25
 rw [ha] at h25
 rw [he] at h13 h22
 rw [nb0, hk, ha] at h34
 rw [ex_head] at h27
 have run := sane_run f13_spec.fn f15_spec.fn f19_spec.fn f22_spec.fn f24_spec.fn f25_spec.fn f27_spec.fn f30_spec.fn pf31_spec.fn f34_spec.fn (encs (pageN (2, 1, ()) (atE exE 2))) (rootD (entsG exV exE [0])) ex_root
 have g19 : ∀ g n, f19_spec.fn (g, n, ()) = f19 g n := fun _ _ => rfl
 have g25 : ∀ s, f25_spec.fn (s, ()) = f25 s := fun _ => rfl
 have g13 : ∀ g, f13_spec.fn (g, ()) = f13 g := fun _ => rfl
 have g15 : ∀ g, f15_spec.fn (g, ()) = f15 g := fun _ => rfl
 have g22 : ∀ l, f22_spec.fn (l, ()) = f22 l := fun _ => rfl
 have g34 : ∀ g l n, f34_spec.fn (g, l, n, ()) = f34 g l n := fun _ _ _ => rfl
 have g27 : ∀ s, f27_spec.fn (s, ()) = f27 s := fun _ => rfl
 have g31 : ∀ n l, pf31_spec.fn (n, l, ()) = pf31 n l := fun _ _ => rfl
 have g30 : ∀ a b, f30_spec.fn (a, b, ()) = f30 a b := fun _ _ => rfl
 have g24 : ∀ a b, f24_spec.fn (a, b, ()) = f24 a b := fun _ _ => rfl
 exact run ((g19 _ _).trans h19a) ((g19 _ _).trans h19b) ((g25 _).trans h25) ((g13 _).trans h13) ((g15 _).trans h15) ((g22 _).trans h22) ((g34 _ _ _).trans h34) ((g27 _).trans h27) ((g31 _ _).trans h31) ((g30 _ _).trans h30) ((g24 _ _).trans h24)
end Go.V.G
namespace Go.V.G
def i64 (x : Int) : Prop := -9223372036854775808 ≤ x ∧ x ≤ 9223372036854775807
theorem wrap_rng (x : Int) : i64 (IntKind.wrap .i64 x) := by
 unfold i64
 simp [IntKind.wrap, IntKind.bits, IntKind.signed]
 omega
def pkV (c n : Int) : Int := Int.tmod (if c < 0 then -(c + 1) else c) n
theorem pkV_rng (c n : Int) (hn : 0 < n) : 0 ≤ pkV c n ∧ pkV c n < n := by
 unfold pkV
 split
 ·rw [Int.tmod_eq_emod_of_nonneg (by omega)]
  exact ⟨Int.emod_nonneg _ (by omega), Int.emod_lt_of_pos _ hn⟩
 ·rw [Int.tmod_eq_emod_of_nonneg (by omega)]
  exact ⟨Int.emod_nonneg _ (by omega), Int.emod_lt_of_pos _ hn⟩
theorem f45_eq (c n : Int) (hc : i64 c) (hn : 0 < n) : f45 c n = some (pkV c n, ()) := by
 unfold i64 at hc
 unfold f45 pkV
 by_cases h : c < 0
 ·rw [decide_eq_true h, if_pos h, decide_eq_true (show n ≠ 0 by omega)]
  simp only [cond_true]
  rw [wrap_i64 (c + 1) (by omega) (by omega), wrap_i64 (0 - (c + 1)) (by omega) (by omega)]
  rw [show 0 - (c + 1) = -(c + 1) by omega]
 ·rw [decide_eq_false h, if_neg h, decide_eq_true (show n ≠ 0 by omega)]
  rfl
def idf (n : Int) (wide : Bool) (j : Nat) : Int := if wide = false ∧ pkV (IntKind.wrap .i64 (Int.tdiv n 8)) 2 = 1 then (j : Int) + ((j / 2 : Nat) : Int) else (j : Int)
theorem idf_lt (n : Int) (wide : Bool) (j : Nat) : idf n wide j < idf n wide (j + 1) := by
 unfold idf
 split <;> omega
theorem made_verts (n : Int) (l : List (List Int)) (wide : Bool) (many : Nat) (hm : many ≤ 18 ∧ (wide = false → many ≤ 8)) : ∀ (m k j : Nat) (acc : List Vx), many - j ≤ m → m < k → j ≤ many → acc.length = j → acc.Pairwise (fun a b => a.1 < b.1) → (∀ v ∈ acc, v.1 < idf n wide j ∧ okV v = true) →
  ∃ vs, f12_l6 n l wide (many : Int) k (j : Int) acc = some ((n, l, (many : Int), ()), (), ((), (), vs, ())) ∧ vs.length = many ∧ vs.Pairwise (fun a b => a.1 < b.1) ∧ ∀ v ∈ vs, okV v = true := by
 intro m
 induction m with
 | zero =>
  intro k j acc h1 h2 h3 h4 h5 h6
  obtain ⟨k, rfl⟩ : ∃ q, k = q + 1 := ⟨k - 1, by omega⟩
  refine ⟨acc, ?_, by omega, h5, fun v hv => (h6 v hv).2⟩
  unfold f12_l6
  rw [decide_eq_false (by omega)]
  rfl
 | succ m ih =>
  intro k j acc h1 h2 h3 h4 h5 h6
  obtain ⟨k, rfl⟩ : ∃ q, k = q + 1 := ⟨k - 1, by omega⟩
  by_cases hj : j < many
  ·have hu := f12_l6.eq_2 n l wide (many : Int) (j : Int) acc k
   rw [decide_eq_true (by omega), cond_true] at hu
   have step : ∀ (s : Int), 0 ≤ s → s < 4 → f12_l6 n l wide (many : Int) (k + 1) (j : Int) acc = (bif (decide (acc.length + ([(idf n wide j, s, ())] : List Vx).length ≤ appLim)) then f12_l6 n l wide (many : Int) k (IntKind.wrap .i64 ((j : Int) + (1 : Int))) (acc ++ ([(idf n wide j, s, ())] : List Vx)) else none) →
     ∃ vs, f12_l6 n l wide (many : Int) (k + 1) (j : Int) acc = some ((n, l, (many : Int), ()), (), ((), (), vs, ())) ∧ vs.length = many ∧ vs.Pairwise (fun a b => a.1 < b.1) ∧ ∀ v ∈ vs, okV v = true := by
    intro s hs1 hs2 he
    rw [appOk _ _ (by simp; omega), cond_true, wS j (by omega)] at he
    obtain ⟨vs, b1, b2⟩ := ih k (j + 1) (acc ++ [(idf n wide j, s, ())]) (by omega) (by omega) (by omega) (by simp; omega) (by
     refine List.pairwise_append.2 ⟨h5, List.pairwise_singleton _ _, fun a ha b hb => ?_⟩
     rw [List.mem_singleton.1 hb]
     exact (h6 a ha).1) (by
     intro v hv
     have hlt := idf_lt n wide j
     rcases List.mem_append.1 hv with hv | hv
     ·exact ⟨by have := (h6 v hv).1; omega, (h6 v hv).2⟩
     ·rw [List.mem_singleton.1 hv]
      refine ⟨hlt, ?_⟩
      unfold okV
      have hi : 0 ≤ idf n wide j ∧ idf n wide j ≤ 23 := by
       unfold idf
       split
       ·rename_i hc
        have := hm.2 hc.1
        omega
       ·omega
      simp only [Bool.and_eq_true, decide_eq_true_eq]
      omega)
    exact ⟨vs, he.trans b1, b2⟩
   have r3 := pkV_rng (IntKind.wrap .i64 (Int.tdiv n 64)) 3 (by omega)
   have side : ∀ x : Int, f45 (IntKind.wrap .i64 x) 4 = some (pkV (IntKind.wrap .i64 x) 4, ()) := fun x => f45_eq _ 4 (wrap_rng _) (by omega)
   have p3 : f45 (IntKind.wrap .i64 (Int.tdiv n 64)) 3 = _ := f45_eq _ 3 (wrap_rng _) (by omega)
   have p2 : f45 (IntKind.wrap .i64 (Int.tdiv n 8)) 2 = _ := f45_eq _ 2 (wrap_rng _) (by omega)
   cases wide with
   | true =>
    have hi : idf n true j = (j : Int) := by unfold idf; rw [if_neg (fun h => by cases h.1)]
    rw [← hi] at hu
    refine step (pkV (IntKind.wrap .i64 (IntKind.wrap .i64 (Int.tdiv n 16) + IntKind.wrap .i64 (idf n true j * IntKind.wrap .i64 (1 + pkV (IntKind.wrap .i64 (Int.tdiv n 64)) 3)))) 4) (pkV_rng _ 4 (by omega)).1 (pkV_rng _ 4 (by omega)).2 ?_
    rw [hi] at hu ⊢
    exact hu.trans (bind_step p3 (bind_step (side _) rfl))
   | false =>
    by_cases hc : pkV (IntKind.wrap .i64 (Int.tdiv n 8)) 2 = 1
    ·have hi : idf n false j = (j : Int) + ((j / 2 : Nat) : Int) := by unfold idf; rw [if_pos ⟨rfl, hc⟩]
     have w1 : IntKind.wrap .i64 (Int.tdiv (j : Int) 2) = ((j / 2 : Nat) : Int) := by
      have : Int.tdiv (j : Int) 2 = ((j / 2 : Nat) : Int) := rfl
      rw [this, wrap_i64 _ (by omega) (by omega)]
     have w2 : IntKind.wrap .i64 ((j : Int) + ((j / 2 : Nat) : Int)) = (j : Int) + ((j / 2 : Nat) : Int) := wrap_i64 _ (by omega) (by omega)
     refine step (pkV (IntKind.wrap .i64 (IntKind.wrap .i64 (Int.tdiv n 16) + IntKind.wrap .i64 ((j : Int) * IntKind.wrap .i64 (1 + pkV (IntKind.wrap .i64 (Int.tdiv n 64)) 3)))) 4) (pkV_rng _ 4 (by omega)).1 (pkV_rng _ 4 (by omega)).2 ?_
     rw [hi]
     refine hu.trans (bind_step p2 ?_)
     simp only [hc, decide_true, cond_true]
     refine bind_step p3 (bind_step (side _) ?_)
     simp only [w1, w2]
    ·have hi : idf n false j = (j : Int) := by unfold idf; rw [if_neg (fun h => hc h.2)]
     refine step (pkV (IntKind.wrap .i64 (IntKind.wrap .i64 (Int.tdiv n 16) + IntKind.wrap .i64 ((j : Int) * IntKind.wrap .i64 (1 + pkV (IntKind.wrap .i64 (Int.tdiv n 64)) 3)))) 4) (pkV_rng _ 4 (by omega)).1 (pkV_rng _ 4 (by omega)).2 ?_
     rw [hi]
     refine hu.trans (bind_step p2 ?_)
     simp only [hc, decide_false, cond_false]
     exact bind_step p3 (bind_step (side _) rfl)
  ·refine ⟨acc, ?_, by omega, h5, fun v hv => (h6 v hv).2⟩
   unfold f12_l6
   rw [decide_eq_false (by omega)]
   rfl
theorem at_rng (l : List (List Int)) (hl : ∀ r ∈ l, ∀ x ∈ r, i64 x) (j : Nat) (c : Int) : i64 (at_ (.int .i64) (at_ (.arr 5 (.int .i64)) l (j : Int)) c) := by
 have h0 : i64 0 := by unfold i64; omega
 have key : ∀ r : List Int, (∀ x ∈ r, i64 x) → i64 (at_ (.int .i64) r c) := by
  intro r hr
  unfold at_
  rw [List.getD_eq_getElem?_getD]
  cases h : r[c.toNat]? with
  | none => exact h0
  | some x => exact hr x (List.mem_of_getElem? h)
 refine key _ ?_
 intro x hx
 unfold at_ at hx
 rw [List.getD_eq_getElem?_getD] at hx
 cases h : l[(j : Int).toNat]? with
 | none =>
  rw [h] at hx
  have : x ∈ List.replicate 5 (0 : Int) := hx
  rw [(List.mem_replicate.1 this).2]
  exact h0
 | some r =>
  rw [h] at hx
  exact hl r (List.mem_of_getElem? h) x hx
theorem made_edges (n : Int) (l : List (List Int)) (hl : ∀ r ∈ l, ∀ x ∈ r, i64 x) (hll : l.length ≤ 9223372036854775807) (vs : List Vx) (hv0 : 0 < vs.length) (hvs : ∀ v ∈ vs, okV v = true) (hv9 : vs.length ≤ 1000) : ∀ (m k j : Nat) (acc : List Ed), l.length - j ≤ m → m < k → j ≤ 20 → acc.length ≤ j → acc.Pairwise (fun a b => a.1 < b.1) → (∀ e ∈ acc, e.1 < (j : Int) + pkV (IntKind.wrap .i64 (Int.tdiv n 4)) 20 ∧ okE e = true ∧ hasV vs e.2.1 = true ∧ hasV vs e.2.2.1 = true) →
  ∃ es, f12_l13 n l (vs.length : Int) vs k (j : Int) acc = some ((n, (vs.length : Int), ()), (), ((), (), vs, es, ())) ∧ es.Pairwise (fun a b => a.1 < b.1) ∧ ∀ e ∈ es, okE e = true ∧ hasV vs e.2.1 = true ∧ hasV vs e.2.2.1 = true := by
 intro m
 induction m with
 | zero =>
  intro k j acc h1 h2 h3 h4 h5 h6
  obtain ⟨k, rfl⟩ : ∃ q, k = q + 1 := ⟨k - 1, by omega⟩
  refine ⟨acc, ?_, h5, fun e he => (h6 e he).2⟩
  unfold f12_l13
  rw [decide_eq_false (by omega)]
  rfl
 | succ m ih =>
  intro k j acc h1 h2 h3 h4 h5 h6
  obtain ⟨k, rfl⟩ : ∃ q, k = q + 1 := ⟨k - 1, by omega⟩
  by_cases hj : j < l.length
  ·by_cases h20 : j < 20
   ·have hu := f12_l13.eq_2 n l (vs.length : Int) vs (j : Int) acc k
    have rng (c : Int) := at_rng l hl j c
    have i5 : ∀ c : Nat, c < 5 → inR (c : Int) 5 = true := fun c hc => by rw [inRN, decide_eq_true hc]
    have q0 : inR (0 : Int) 5 = true := i5 0 (by omega)
    have q1 : inR (1 : Int) 5 = true := i5 1 (by omega)
    have q2 : inR (2 : Int) 5 = true := i5 2 (by omega)
    have q3 : inR (3 : Int) 5 = true := i5 3 (by omega)
    have q4 : inR (4 : Int) 5 = true := i5 4 (by omega)
    rw [decide_eq_true (show (j : Int) < (l.length : Int) by omega), cond_true, decide_eq_true (show (j : Int) < 20 by omega), cond_true] at hu
    simp only [inRN, decide_eq_true hj, cond_true, q0, q1, q2, q3, q4, wS j (by omega)] at hu
    have b := pkV_rng (IntKind.wrap .i64 (Int.tdiv n 4)) 20 (by omega)
    have p27 := f45_eq _ 20 (wrap_rng (Int.tdiv n 4)) (by omega)
    have hmany : (0 : Int) < (vs.length : Int) := by omega
    have p29 := f45_eq _ (vs.length : Int) (rng 0) hmany
    have p32 := f45_eq _ (vs.length : Int) (rng 1) hmany
    have p35 := f45_eq _ 2 (rng 2) (by omega)
    have p37 := f45_eq _ 12 (rng 3) (by omega)
    have p39 := f45_eq _ 6 (rng 4) (by omega)
    have p41 := f45_eq _ 11 (rng 4) (by omega)
    have p43 := f45_eq _ 2001 (rng 3) (by omega)
    have end_ok : ∀ c : Int, ∃ i : Nat, ∃ h : i < vs.length, pkV (at_ (.int .i64) (at_ (.arr 5 (.int .i64)) l (j : Int)) c) (vs.length : Int) = (i : Int) ∧ hasV vs vs[i].1 = true ∧ 0 ≤ vs[i].1 ∧ vs[i].1 ≤ 23 ∧ at_ tV vs (i : Int) = vs[i] := by
     intro c
     have r := pkV_rng (at_ (.int .i64) (at_ (.arr 5 (.int .i64)) l (j : Int)) c) (vs.length : Int) hmany
     generalize pkV (at_ (.int .i64) (at_ (.arr 5 (.int .i64)) l (j : Int)) c) (vs.length : Int) = y at r
     have hi : y.toNat < vs.length := by omega
     have ho := hvs _ (List.getElem_mem hi)
     unfold okV at ho
     simp only [Bool.and_eq_true, decide_eq_true_eq] at ho
     exact ⟨y.toNat, hi, by omega, hasV_of (List.getElem_mem hi), by omega, by omega, atN tV vs y.toNat hi⟩
    obtain ⟨i0, hi0, e0, s0, s1, s2, s3⟩ := end_ok 0
    obtain ⟨i1, hi1, e1, t0, t1, t2, t3⟩ := end_ok 1
    rw [e0] at p29
    rw [e1] at p32
    have w : IntKind.wrap .i64 ((j : Int) + pkV (IntKind.wrap .i64 (Int.tdiv n 4)) 20) = (j : Int) + pkV (IntKind.wrap .i64 (Int.tdiv n 4)) 20 := wrap_i64 _ (by omega) (by omega)
    have step : ∀ (d : Bool) (y z : Int), -1000 ≤ y → y ≤ 1000 → 0 ≤ z → z < 6 → f12_l13 n l (vs.length : Int) vs (k + 1) (j : Int) acc = (bif (decide (acc.length + ([((j : Int) + pkV (IntKind.wrap .i64 (Int.tdiv n 4)) 20, vs[i0].1, vs[i1].1, d, y, z, ())] : List Ed).length ≤ appLim)) then f12_l13 n l (vs.length : Int) vs k ((j + 1 : Nat) : Int) (acc ++ ([((j : Int) + pkV (IntKind.wrap .i64 (Int.tdiv n 4)) 20, vs[i0].1, vs[i1].1, d, y, z, ())] : List Ed)) else none) →
      ∃ es, f12_l13 n l (vs.length : Int) vs (k + 1) (j : Int) acc = some ((n, (vs.length : Int), ()), (), ((), (), vs, es, ())) ∧ es.Pairwise (fun a b => a.1 < b.1) ∧ ∀ e ∈ es, okE e = true ∧ hasV vs e.2.1 = true ∧ hasV vs e.2.2.1 = true := by
     intro d y z hy1 hy2 hz1 hz2 he
     rw [appOk _ _ (by simp; omega), cond_true] at he
     obtain ⟨es, b1, b2⟩ := ih k (j + 1) (acc ++ [((j : Int) + pkV (IntKind.wrap .i64 (Int.tdiv n 4)) 20, vs[i0].1, vs[i1].1, d, y, z, ())]) (by omega) (by omega) (by omega) (by simp; omega) (by
      refine List.pairwise_append.2 ⟨h5, List.pairwise_singleton _ _, fun a ha b hb => ?_⟩
      rw [List.mem_singleton.1 hb]
      exact (h6 a ha).1) (by
      intro e he'
      rcases List.mem_append.1 he' with he' | he'
      ·have := h6 e he'
       exact ⟨by omega, this.2⟩
      ·rw [List.mem_singleton.1 he']
       refine ⟨by show (j : Int) + _ < _; omega, ?_, s0, t0⟩
       unfold okE
       simp only [Bool.and_eq_true, decide_eq_true_eq]
       omega)
     exact ⟨es, he.trans b1, b2⟩
    have z6 := pkV_rng (at_ (.int .i64) (at_ (.arr 5 (.int .i64)) l (j : Int)) 4) 6 (by omega)
    have y12 := pkV_rng (at_ (.int .i64) (at_ (.arr 5 (.int .i64)) l (j : Int)) 3) 12 (by omega)
    have y2001 := pkV_rng (at_ (.int .i64) (at_ (.arr 5 (.int .i64)) l (j : Int)) 3) 2001 (by omega)
    by_cases hc : pkV (at_ (.int .i64) (at_ (.arr 5 (.int .i64)) l (j : Int)) 4) 11 = 10
    ·refine step (decide (pkV (at_ (.int .i64) (at_ (.arr 5 (.int .i64)) l (j : Int)) 2) 2 = 1)) (pkV (at_ (.int .i64) (at_ (.arr 5 (.int .i64)) l (j : Int)) 3) 2001 - 1000) _ (by omega) (by omega) z6.1 z6.2 ?_
     refine hu.trans (bind_step p27 (bind_step p29 ?_))
     simp only [inRN, decide_eq_true hi0, cond_true]
     refine bind_step p32 ?_
     simp only [inRN, decide_eq_true hi1, cond_true]
     refine bind_step p35 (bind_step p37 (bind_step p39 (bind_step p41 ?_)))
     simp only [hc, decide_true, cond_true]
     refine bind_step p43 ?_
     simp only [w, s3, t3]
     rw [wrap_i64 (pkV (at_ (.int .i64) (at_ (.arr 5 (.int .i64)) l (j : Int)) 3) 2001 - 1000) (by omega) (by omega)]
    ·refine step (decide (pkV (at_ (.int .i64) (at_ (.arr 5 (.int .i64)) l (j : Int)) 2) 2 = 1)) (pkV (at_ (.int .i64) (at_ (.arr 5 (.int .i64)) l (j : Int)) 3) 12 - 3) _ (by omega) (by omega) z6.1 z6.2 ?_
     refine hu.trans (bind_step p27 (bind_step p29 ?_))
     simp only [inRN, decide_eq_true hi0, cond_true]
     refine bind_step p32 ?_
     simp only [inRN, decide_eq_true hi1, cond_true]
     refine bind_step p35 (bind_step p37 (bind_step p39 (bind_step p41 ?_)))
     simp only [hc, decide_false, cond_false, w, s3, t3]
     rw [wrap_i64 (pkV (at_ (.int .i64) (at_ (.arr 5 (.int .i64)) l (j : Int)) 3) 12 - 3) (by omega) (by omega)]
   ·refine ⟨acc, ?_, h5, fun e he => (h6 e he).2⟩
    unfold f12_l13
    rw [decide_eq_true (show (j : Int) < (l.length : Int) by omega), cond_true, decide_eq_false (show ¬ (j : Int) < 20 by omega)]
    rfl
  ·refine ⟨acc, ?_, h5, fun e he => (h6 e he).2⟩
   unfold f12_l13
   rw [decide_eq_false (by omega)]
   rfl
theorem made_dues (n : Int) (vs : List Vx) (hv9 : vs.length ≤ 1000) (es : List Ed) : ∀ (m k j : Nat) (acc : List Int), vs.length - j ≤ m → m < k → j ≤ 3 → acc = (vs.map (·.1)).take j → j ≤ vs.length →
  ∃ i, i ≤ 3 ∧ f12_l20 n (vs.length : Int) vs es k (j : Int) acc = some ((), (), ((), (), vs, es, (vs.map (·.1)).take i, ())) := by
 intro m
 induction m with
 | zero =>
  intro k j acc h1 h2 h3 h4 h5
  obtain ⟨k, rfl⟩ : ∃ q, k = q + 1 := ⟨k - 1, by omega⟩
  have hu := f12_l20.eq_2 n (vs.length : Int) vs es (j : Int) acc k
  have p := f45_eq _ 4 (wrap_rng (Int.tdiv n 32)) (by omega)
  refine ⟨j, h3, hu.trans (bind_step p ?_)⟩
  subst h4
  cases hc : decide ((j : Int) < pkV (IntKind.wrap .i64 (Int.tdiv n 32)) 4) with
  | false => rfl
  | true =>
   rw [cond_true, decide_eq_false (by omega)]
   rfl
 | succ m ih =>
  intro k j acc h1 h2 h3 h4 h5
  obtain ⟨k, rfl⟩ : ∃ q, k = q + 1 := ⟨k - 1, by omega⟩
  have hu := f12_l20.eq_2 n (vs.length : Int) vs es (j : Int) acc k
  have p := f45_eq _ 4 (wrap_rng (Int.tdiv n 32)) (by omega)
  have r := pkV_rng (IntKind.wrap .i64 (Int.tdiv n 32)) 4 (by omega)
  by_cases c1 : (j : Int) < pkV (IntKind.wrap .i64 (Int.tdiv n 32)) 4
  ·by_cases c2 : j < vs.length
   ·have hget : at_ tV vs (j : Int) = vs[j] := atN tV vs j c2
    have hl : acc.length ≤ 10 := by subst h4; simp; omega
    obtain ⟨i, hi, b1⟩ := ih k (j + 1) (acc ++ [vs[j].1]) (by omega) (by omega) (by omega) (by
     subst h4
     rw [List.take_succ_eq_append_getElem (by simpa using c2)]
     simp) (by omega)
    refine ⟨i, hi, hu.trans (bind_step p ?_)⟩
    show (bif decide ((j : Int) < pkV (IntKind.wrap .i64 (Int.tdiv n 32)) 4) then (bif decide ((j : Int) < (vs.length : Int)) then (bif inR (j : Int) vs.length then (bif (decide (acc.length + ([(at_ tV vs (j : Int)).1] : List Int).length ≤ appLim)) then f12_l20 n (vs.length : Int) vs es k (IntKind.wrap .i64 ((j : Int) + (1 : Int))) (acc ++ ([(at_ tV vs (j : Int)).1] : List Int)) else none) else none) else _) else _) = _
    rw [decide_eq_true c1, cond_true, decide_eq_true (show (j : Int) < (vs.length : Int) by omega), cond_true, inRN, decide_eq_true c2, hget, cond_true, appOk _ _ (by simp; omega), wS j (by omega)]
    exact b1
   ·refine ⟨j, h3, hu.trans (bind_step p ?_)⟩
    subst h4
    rw [decide_eq_true c1, cond_true, decide_eq_false (by omega)]
    rfl
  ·refine ⟨j, h3, hu.trans (bind_step p ?_)⟩
   subst h4
   rw [decide_eq_false c1]
   rfl
theorem made_valid (n : Int) (l : List (List Int)) (wide : Bool) (hn : i64 n) (hl : ∀ r ∈ l, ∀ x ∈ r, i64 x) (hll : l.length ≤ 9223372036854775807) : ∃ vs es ds, f12 n l wide = some ((vs, es, ds, ()), ()) ∧ valid (vs, es, ds, ()) = true ∧ 0 < vs.length := by
 have p1 := f45_eq n 8 hn (by omega)
 have r1 := pkV_rng n 8 (by omega)
 have main : ∀ many : Nat, 0 < many → many ≤ 18 ∧ (wide = false → many ≤ 8) → ∃ vs es ds,
   ((f12_l6 n l wide (many : Int) (((many : Int) - (0 : Int)).toNat + 1) (0 : Int) []).bind fun o21 =>
    (f12_l13 o21.1.1 o21.1.2.1 o21.1.2.2.1 o21.2.2.2.2.1 (((o21.1.2.1.length : Int) - (0 : Int)).toNat + 1) (0 : Int) []).bind fun o45 =>
    (f12_l20 o45.1.1 o45.1.2.1 o45.2.2.2.2.1 o45.2.2.2.2.2.1 ((o45.1.2.1 - (0 : Int)).toNat + 1) (0 : Int) []).bind fun o53 =>
    some ((o53.2.2.2.2.1, (o53.2.2.2.2.2.1, (o53.2.2.2.2.2.2.1, ()))), ())) = some ((vs, es, ds, ()), ()) ∧ valid (vs, es, ds, ()) = true ∧ 0 < vs.length := by
  intro many hm0 hm
  obtain ⟨vs, a1, a2, a3, a4⟩ := made_verts n l wide many hm many (((many : Int) - (0 : Int)).toNat + 1) 0 [] (by omega) (by omega) (by omega) rfl List.Pairwise.nil (fun v hv => by simp at hv)
  obtain ⟨es, b1, b2, b3⟩ := made_edges n l hl hll vs (by omega) a4 (by omega) l.length (((l.length : Int) - (0 : Int)).toNat + 1) 0 [] (by omega) (by omega) (by omega) (by simp) List.Pairwise.nil (fun v hv => by simp at hv)
  obtain ⟨i, hi, c1⟩ := made_dues n vs (by omega) es vs.length (((vs.length : Int) - (0 : Int)).toNat + 1) 0 [] (by omega) (by omega) (by omega) (by simp) (by omega)
  refine ⟨vs, es, (vs.map (·.1)).take i, bind_step a1 ?_, ?_, by omega⟩
  ·rw [← a2]
   refine bind_step b1 ?_
   refine bind_step c1 ?_
   rfl
  ·unfold valid
   have d1 : asc kV vs = true := (asc_pairwise kV).2 a3
   have d2 : asc kE es = true := (asc_pairwise kE).2 b2
   have d3 : asc kI ((vs.map (·.1)).take i) = true := (asc_pairwise kI).2 ((List.pairwise_map.2 a3).sublist (List.take_sublist _ _))
   have d4 : ((vs.map (·.1)).take i).length ≤ 3 := by rw [List.length_take]; omega
   have d5 : ((vs.map (·.1)).take i).all (hasV vs) = true := List.all_eq_true.2 fun d hd => by
    obtain ⟨v, hv, h1⟩ := List.mem_map.1 (List.mem_of_mem_take hd)
    rw [← h1]
    exact hasV_of hv
   simp only [d1, d2, d3, d5, decide_eq_true d4, Bool.true_and, Bool.and_true, Bool.and_eq_true, List.all_eq_true]
   exact ⟨a4, fun e he => ⟨⟨(b3 e he).1, (b3 e he).2.1⟩, (b3 e he).2.2⟩⟩
 unfold f12
 cases wide with
 | true =>
  obtain ⟨vs, es, ds, h1, h2⟩ := main (1 + (pkV n 8).toNat + 10) (by omega) ⟨by omega, fun h => by cases h⟩
  refine ⟨vs, es, ds, bind_step p1 ?_, h2⟩
  have w1 : IntKind.wrap .i64 (1 + pkV n 8) = 1 + pkV n 8 := wrap_i64 _ (by omega) (by omega)
  have w2 : IntKind.wrap .i64 (1 + pkV n 8 + 10) = ((1 + (pkV n 8).toNat + 10 : Nat) : Int) := by rw [wrap_i64 _ (by omega) (by omega)]; omega
  simp only [cond_true, w1, w2]
  exact h1
 | false =>
  obtain ⟨vs, es, ds, h1, h2⟩ := main (1 + (pkV n 8).toNat) (by omega) ⟨by omega, fun _ => by omega⟩
  refine ⟨vs, es, ds, bind_step p1 ?_, h2⟩
  have w1 : IntKind.wrap .i64 (1 + pkV n 8) = ((1 + (pkV n 8).toNat : Nat) : Int) := by rw [wrap_i64 _ (by omega) (by omega)]; omega
  simp only [cond_false, w1]
  exact h1
theorem i64_of {x : Int} (h : (Ty.int .i64).ok x) : i64 x := h
theorem rows_of {l : List (List Int)} {n : Nat} (h : (Ty.sl (.arr n (.int .i64))).ok l) : l.length ≤ 9223372036854775807 ∧ ∀ r ∈ l, ∀ x ∈ r, i64 x := by
 refine ⟨Nat.le_trans h.1 (Nat.le_of_ble_eq_true (by kernel_rfl)), fun r hr x hx => ?_⟩
 exact i64_of ((h.2 r hr).2 x hx)
end Go.V.G
namespace Go.V.G
def f5_l10_head : Ann := { env := [(7, .ty .bool), (8, cP 8), (9, .ty (.sl tN)), (11, TI), (12, TI)], stk := [], bxs := [(8, .var [.ty (.sl tV), .ty (.sl tE), .ty (.sl tI)])] }
def f5_l10_outs : List (Ex × Ann) := [((.exit 0), { env := [(7, .ty .bool), (8, cP 8), (9, .ty (.sl tN)), (11, TI)], stk := [], bxs := [(8, .var [.ty (.sl tV), .ty (.sl tE), .ty (.sl tI)])] })]
def f5_l10 (t7 : Bool) (t9 : (List En)) (b8g0 : (List Vx)) (b8g1 : (List Ed)) (b8g2 : (List Int)) : Nat → Int → Int → Option (outDen f5_l10_outs)
 | 0, _, _ => none
 | k + 1, t11, t12 =>
  bif (decide (t12 < (b8g1.length : Int))) then
   bif (inR t12 b8g1.length) then
    let v5 : Int := (at_ tE b8g1 t12).1
    bif (decide (0 ≤ v5)) then
     let v6 : Int := (IntKind.wrap .i64 (t11 + (shlV .i64 (1 : Int) v5)))
     f5_l10 t7 t9 b8g0 b8g1 b8g2 k v6 (IntKind.wrap .i64 (t12 + (1 : Int)))
    else none
   else none
  else
   some ((t7, t9, t11, ()), (), ((b8g0, b8g1, b8g2, ()), ()))
def f5_l10_n (n : Nat) (x : f5_l10_head.den) := f5_l10 x.1.1 x.1.2.1 x.2.2.1.1 x.2.2.1.2.1 x.2.2.1.2.2.1 n x.1.2.2.1 x.1.2.2.2.1
def f5_l10_spec : LSpec := { thaws := [], head := f5_l10_head, outs := f5_l10_outs, fn := fun x => f5_l10_n (((x.2.2.1.2.1.length : Int) - x.1.2.2.2.1).toNat + 1) x }
def f5_l21_head : Ann := { env := [(7, .ty .bool), (8, cP 8), (9, .ty (.sl tN)), (11, TI), (13, TI), (14, cP 14), (15, .ty (.sl tE)), (17, TI), (18, TI)], stk := [], bxs := [(8, .var [.ty (.sl tV), .ty (.sl tE), .ty (.sl tI)]), (14, .var [TI, TI])] }
def f5_l21_outs : List (Ex × Ann) := [((.exit 4), { env := [(7, .ty .bool), (8, cP 8), (9, .ty (.sl tN)), (11, TI), (13, TI), (15, .ty (.sl tE)), (17, TI)], stk := [], bxs := [(8, .var [.ty (.sl tV), .ty (.sl tE), .ty (.sl tI)])] }), (.ret, { env := [(6, .ty .bool)], stk := [], bxs := [] })]
def f5_l21 (t7 : Bool) (t9 : (List En)) (t11 : Int) (t13 : Int) (t15 : (List Ed)) (b8g0 : (List Vx)) (b8g1 : (List Ed)) (b8g2 : (List Int)) (b14g0 : Int) (b14g1 : Int) : Nat → Int → Int → Option (outDen f5_l21_outs)
 | 0, _, _ => none
 | k + 1, t17, t18 =>
  bif (decide (t18 < (b8g1.length : Int))) then
   bif (inR t18 b8g1.length) then
    let v18 : Int := (at_ tE b8g1 t18).2.1
    bif (decide (v18 ≠ b14g0)) then
     bif (inR t18 b8g1.length) then
      let v19 : Int := (at_ tE b8g1 t18).2.2.1
      bif (decide (v19 ≠ b14g0)) then
       f5_l21 t7 t9 t11 t13 t15 b8g0 b8g1 b8g2 b14g0 b14g1 k t17 (IntKind.wrap .i64 (t18 + (1 : Int)))
      else
       bif (decide (t17 ≥ (t15.length : Int))) then
        some (.inr ((false, ()), (), ()))
       else
        bif (inR t17 t15.length) then
         bif (inR t18 b8g1.length) then
          let v20 : Bool := (!(decide ((at_ tE t15 t17).1 = (at_ tE b8g1 t18).1) && (decide ((at_ tE t15 t17).2.1 = (at_ tE b8g1 t18).2.1) && (decide ((at_ tE t15 t17).2.2.1 = (at_ tE b8g1 t18).2.2.1) && (decide ((at_ tE t15 t17).2.2.2.1 = (at_ tE b8g1 t18).2.2.2.1) && (decide ((at_ tE t15 t17).2.2.2.2.1 = (at_ tE b8g1 t18).2.2.2.2.1) && (decide ((at_ tE t15 t17).2.2.2.2.2.1 = (at_ tE b8g1 t18).2.2.2.2.2.1) && true)))))))
          bif v20 then
           some (.inr ((false, ()), (), ()))
          else
           f5_l21 t7 t9 t11 t13 t15 b8g0 b8g1 b8g2 b14g0 b14g1 k (IntKind.wrap .i64 (t17 + (1 : Int))) (IntKind.wrap .i64 (t18 + (1 : Int)))
         else none
        else none
     else none
    else
     bif (decide (t17 ≥ (t15.length : Int))) then
      some (.inr ((false, ()), (), ()))
     else
      bif (inR t17 t15.length) then
       bif (inR t18 b8g1.length) then
        let v21 : Bool := (!(decide ((at_ tE t15 t17).1 = (at_ tE b8g1 t18).1) && (decide ((at_ tE t15 t17).2.1 = (at_ tE b8g1 t18).2.1) && (decide ((at_ tE t15 t17).2.2.1 = (at_ tE b8g1 t18).2.2.1) && (decide ((at_ tE t15 t17).2.2.2.1 = (at_ tE b8g1 t18).2.2.2.1) && (decide ((at_ tE t15 t17).2.2.2.2.1 = (at_ tE b8g1 t18).2.2.2.2.1) && (decide ((at_ tE t15 t17).2.2.2.2.2.1 = (at_ tE b8g1 t18).2.2.2.2.2.1) && true)))))))
        bif v21 then
         some (.inr ((false, ()), (), ()))
        else
         f5_l21 t7 t9 t11 t13 t15 b8g0 b8g1 b8g2 b14g0 b14g1 k (IntKind.wrap .i64 (t17 + (1 : Int))) (IntKind.wrap .i64 (t18 + (1 : Int)))
       else none
      else none
   else none
  else
   some (.inl ((t7, t9, t11, t13, t15, t17, ()), (), ((b8g0, b8g1, b8g2, ()), ())))
def f5_l21_n (n : Nat) (x : f5_l21_head.den) := f5_l21 x.1.1 x.1.2.1 x.1.2.2.1 x.1.2.2.2.1 x.1.2.2.2.2.1 x.2.2.1.1 x.2.2.1.2.1 x.2.2.1.2.2.1 x.2.2.2.1.1 x.2.2.2.1.2.1 n x.1.2.2.2.2.2.1 x.1.2.2.2.2.2.2.1
def f5_l21_spec : LSpec := { thaws := [], head := f5_l21_head, outs := f5_l21_outs, fn := fun x => f5_l21_n (((x.2.2.1.2.1.length : Int) - x.1.2.2.2.2.2.2.1).toNat + 1) x }
def f5_l14_head : Ann := { env := [(7, .ty .bool), (8, cP 8), (9, .ty (.sl tN)), (11, TI), (13, TI)], stk := [], bxs := [(8, .var [.ty (.sl tV), .ty (.sl tE), .ty (.sl tI)])] }
def f5_l14_outs : List (Ex × Ann) := [((.exit 2), { env := [(7, .ty .bool), (8, cP 8), (9, .ty (.sl tN)), (11, TI)], stk := [], bxs := [(8, .var [.ty (.sl tV), .ty (.sl tE), .ty (.sl tI)])] }), (.ret, { env := [(6, .ty .bool)], stk := [], bxs := [] })]
def f5_l14 : Nat → Bool → (List En) → Int → Int → (List Vx) → (List Ed) → (List Int) → Option (outDen f5_l14_outs)
 | 0, _, _, _, _, _, _, _ => none
 | k + 1, t7, t9, t11, t13, b8g0, b8g1, b8g2 =>
  bif (decide (t13 < (b8g0.length : Int))) then
   bif (inR t13 t9.length) then
    let v14 : ByteArray := (at_ tN t9 t13).2.1
    (f25 v14).bind fun y15 =>
    bif (decide (y15.2.2.1 ≠ (0 : Int))) then
     some (.inr ((false, ()), (), ()))
    else
     bif (inR t13 b8g0.length) then
      let v16 : Bool := (!(decide (y15.1.1 = (at_ tV b8g0 t13).1) && (decide (y15.1.2.1 = (at_ tV b8g0 t13).2.1) && true)))
      bif v16 then
       some (.inr ((false, ()), (), ()))
      else
       bif (inR t13 t9.length) then
        let v17 : Int := (at_ tN t9 t13).1
        bif (decide (v17 ≠ y15.1.1)) then
         some (.inr ((false, ()), (), ()))
        else
         (f5_l21 t7 t9 t11 t13 y15.2.1 b8g0 b8g1 b8g2 y15.1.1 y15.1.2.1 (((b8g1.length : Int) - (0 : Int)).toNat + 1) (0 : Int) (0 : Int)).bind fun o22 =>
         Sum.elim (fun o23 =>
          let u25 : Bool := o23.1.1
          let u26 : (List En) := o23.1.2.1
          let u27 : Int := o23.1.2.2.1
          let u28 : Int := o23.1.2.2.2.1
          let u29 : (List Ed) := o23.1.2.2.2.2.1
          let u30 : Int := o23.1.2.2.2.2.2.1
          let u31 : (List Vx) := o23.2.2.1.1
          let u32 : (List Ed) := o23.2.2.1.2.1
          let u33 : (List Int) := o23.2.2.1.2.2.1
          bif (decide (u30 ≠ (u29.length : Int))) then
           some (.inr ((false, ()), (), ()))
          else
           f5_l14 k u25 u26 u27 (IntKind.wrap .i64 (u28 + (1 : Int))) u31 u32 u33) (fun o24 =>
          let u34 : Bool := o24.1.1
          some (.inr ((u34, ()), (), ()))) o22
       else none
     else none
   else none
  else
   some (.inl ((t7, t9, t11, ()), (), ((b8g0, b8g1, b8g2, ()), ())))
def f5_l14_n (n : Nat) (x : f5_l14_head.den) := f5_l14 n x.1.1 x.1.2.1 x.1.2.2.1 x.1.2.2.2.1 x.2.2.1.1 x.2.2.1.2.1 x.2.2.1.2.2.1
def f5_l14_spec : LSpec := { thaws := [], head := f5_l14_head, outs := f5_l14_outs, fn := fun x => f5_l14_n (((x.2.2.1.1.length : Int) - x.1.2.2.2.1).toNat + 1) x }
def f5 (a0 : Int) (a1 : (List (List Int))) (a2 : Bool) : Option (Bool × Unit) :=
 (f10 ).bind fun y1 =>
 bif (!y1.1) then
  some (false, ())
 else
  (f12 a0 a1 a2).bind fun y2 =>
  (f13 y2.1).bind fun y3 =>
  bif (decide (y3.2.1 ≠ (0 : Int))) then
   some (false, ())
  else
   let v4 : Int := (IntKind.wrap .i64 ((y2.1.1.length : Int) + (1 : Int)))
   bif (decide ((y3.1.length : Int) ≠ v4)) then
    some (false, ())
   else
    (f5_l10 y1.1 y3.1 y2.1.1 y2.1.2.1 y2.1.2.2.1 (((y2.1.2.1.length : Int) - (0 : Int)).toNat + 1) (0 : Int) (0 : Int)).bind fun o7 =>
    let u8 : Bool := o7.1.1
    let u9 : (List En) := o7.1.2.1
    let u10 : Int := o7.1.2.2.1
    let u11 : (List Vx) := o7.2.2.1.1
    let u12 : (List Ed) := o7.2.2.1.2.1
    let u13 : (List Int) := o7.2.2.1.2.2.1
    (f5_l14 (((u11.length : Int) - (0 : Int)).toNat + 1) u8 u9 u10 (0 : Int) u11 u12 u13).bind fun o35 =>
    Sum.elim (fun o36 =>
     let u38 : Bool := o36.1.1
     let u39 : (List En) := o36.1.2.1
     let u40 : Int := o36.1.2.2.1
     let u43 : (List Int) := o36.2.2.1.2.2.1
     let v44 : Int := (IntKind.wrap .i64 ((u39.length : Int) - (1 : Int)))
     bif (inR v44 u39.length) then
      let v45 : ByteArray := (at_ tN u39 v44).2.1
      (f27 v45).bind fun y46 =>
      bif u38 then
       bif (decide (y46.2.2.1 = (0 : Int))) then
        bif (decide (y46.2.1 = u40)) then
         (f30 y46.1 u43).bind fun y47 =>
         some (y47.1, ())
        else
         some (false, ())
       else
        some (false, ())
      else
       some (false, ())
     else none) (fun o37 =>
     let u48 : Bool := o37.1.1
     some (u48, ())) o35
def f5_spec : PSpec := { args := [tI, (.sl (.arr 5 tI)), .bool], res := [.bool], fn := fun x => f5 x.1 x.2.1 x.2.2.1 }
noncomputable def f5_code : Code := Go.Proofs.Tryz.f5.body.getD .skip
noncomputable def f5_env : Env0 := { C := cfg, P := [(10, f10_spec), (12, f12_spec), (13, f13_spec), (25, f25_spec), (27, f27_spec), (30, f30_spec)], L := [(⟨12, 0, 5, 10⟩, f5_l10_spec), (⟨12, 0, 5, 21⟩, f5_l21_spec), (⟨12, 0, 5, 14⟩, f5_l14_spec)], F := [(5, Go.Proofs.Tryz.f5)], S := [], R := [], I := [], tot := [] }
theorem f5_l10_ok : LoopOK f5_env 12 5 0 (loopAt f5_code 10) f5_l10_spec :=
 loopOK_of (by kernel_rfl) f5_l10_n (fun x o h => ⟨_, h⟩) (fun x => by kernel_rfl) (fun n x => by kernel_rfl)
theorem f5_l21_ok : LoopOK f5_env 12 5 0 (loopAt f5_code 21) f5_l21_spec :=
 loopOK_of (by kernel_rfl) f5_l21_n (fun x o h => ⟨_, h⟩) (fun x => by kernel_rfl) (fun n x => by kernel_rfl)
theorem f5_l14_ok : LoopOK f5_env 12 5 0 (loopAt f5_code 14) f5_l14_spec :=
 loopOK_of (by kernel_rfl) f5_l14_n (fun x o h => ⟨_, h⟩) (fun x => by kernel_rfl) (fun n x => by kernel_rfl)
theorem f5_run (x : tysDen (f5_spec).args) : runF f5_env 5 Go.Proofs.Tryz.f5 f5_code (f5_spec).args (f5_spec).res x = f5_spec.fn x := by kernel_rfl
theorem f5_envOK : EnvOK Go.Proofs.Tryz.prog f5_env := envOK_of cds (by kernel_rfl) cfg_ok ⟨⟨f10_pure, f10_enter⟩, ⟨f12_pure, f12_enter⟩, ⟨f13_pure, f13_enter⟩, ⟨f25_pure, f25_enter⟩, ⟨f27_pure, f27_enter⟩, ⟨f30_pure, f30_enter⟩, trivial⟩ trivial ⟨⟨Go.Proofs.Tryz.func5, by kernel_rfl⟩, trivial⟩ ⟨⟨Go.Proofs.Tryz.f5, f5_code, rfl, rfl, f5_l10_ok⟩, ⟨Go.Proofs.Tryz.f5, f5_code, rfl, rfl, f5_l21_ok⟩, ⟨Go.Proofs.Tryz.f5, f5_code, rfl, rfl, f5_l14_ok⟩, trivial⟩ trivial trivial
theorem f5_pure : PureOK Go.Proofs.Tryz.prog cfg 5 f5_spec := pure_of_run f5_envOK (fn := Go.Proofs.Tryz.f5) (c := f5_code) rfl rfl f5_spec (fun x _ h => (f5_run x).trans h)
end Go.V.G
namespace Go.V.G
theorem atE_app (a b : List Ed) (id : Int) : atE (a ++ b) id = atE a id ++ atE b id := by unfold atE; rw [List.filter_append]
theorem atE_cons (e : Ed) (l : List Ed) (id : Int) : atE (e :: l) id = if isAt id e = true then e :: atE l id else atE l id := by
 unfold atE isAt
 rw [List.filter_cons]
theorem edges_stand (t7 : Bool) (t9 : List En) (t11 t13 : Int) (vs : List Vx) (es : List Ed) (ds : List Int) (id s : Int) (hl : es.length ≤ 1000) : ∀ (rest pre : List Ed) (k : Nat), es = pre ++ rest → rest.length < k →
  f5_l21 t7 t9 t11 t13 (atE es id) vs es ds id s k ((atE pre id).length : Int) (pre.length : Int) = some (.inl ((t7, t9, t11, t13, atE es id, ((atE es id).length : Int), ()), (), ((vs, es, ds, ()), ())))
 | [], pre, k, h, hk => by
  obtain ⟨k, rfl⟩ : ∃ q, k = q + 1 := ⟨k - 1, by omega⟩
  rw [List.append_nil] at h
  subst h
  unfold f5_l21
  rw [decide_eq_false (by omega)]
  rfl
 | e :: rest, pre, k, h, hk => by
  simp only [List.length_cons] at hk
  obtain ⟨k, rfl⟩ : ∃ q, k = q + 1 := ⟨k - 1, by omega⟩
  have hlen : es.length = pre.length + (rest.length + 1) := by rw [h]; simp
  have hj : pre.length < es.length := by omega
  have hget : at_ tE es (pre.length : Int) = e := by
   have h1 : at_ tE es (pre.length : Int) = es[pre.length] := atN tE es pre.length hj
   refine h1.trans ?_
   simp [h]
  have ih := edges_stand t7 t9 t11 t13 vs es ds id s hl rest (pre ++ [e]) k (by rw [h]; simp) (by omega)
  rw [show (pre ++ [e]).length = pre.length + 1 by simp, atE_app] at ih
  have hu := f5_l21.eq_2 t7 t9 t11 t13 (atE es id) vs es ds id s ((atE pre id).length : Int) (pre.length : Int) k
  rw [decide_eq_true (by omega), cond_true] at hu
  simp only [inRN, decide_eq_true hj, cond_true, hget, wS pre.length (by omega)] at hu
  have hat : atE es id = atE pre id ++ (if isAt id e = true then e :: atE rest id else atE rest id) := by rw [h, atE_app, atE_cons]
  have hle := atE_len es id
  by_cases c : isAt id e = true
  ·have a1 : atE [e] id = [e] := by rw [atE_cons, if_pos c]; rfl
   rw [a1] at ih
   rw [if_pos c] at hat
   have hp : (atE pre id).length < (atE es id).length := by rw [hat]; simp
   have hg2 : at_ tE (atE es id) ((atE pre id).length : Int) = e := by
    have h1 : at_ tE (atE es id) ((atE pre id).length : Int) = (atE es id)[(atE pre id).length] := atN tE (atE es id) _ hp
    refine h1.trans ?_
    simp [hat]
   have q : decide (((atE pre id).length : Int) ≥ ((atE es id).length : Int)) = false := decide_eq_false (by omega)
   simp only [hg2, q, decide_eq_true hp, cond_false, cond_true, decide_true, Bool.and_self, Bool.not_true, wS (atE pre id).length (by omega)] at hu
   rw [show ((atE pre id ++ [e]).length) = (atE pre id).length + 1 by simp] at ih
   rw [hu, ← ih]
   by_cases c1 : e.2.1 = id
   ·simp [c1]
   ·have c2 : e.2.2.1 = id := by
     unfold isAt at c
     simp only [Bool.or_eq_true, decide_eq_true_eq] at c
     exact c.resolve_left c1
    simp [c1, c2]
  ·have a1 : atE [e] id = [] := by rw [atE_cons, if_neg c]; rfl
   rw [a1, List.append_nil] at ih
   unfold isAt at c
   simp only [Bool.or_eq_true, decide_eq_true_eq, not_or] at c
   rw [decide_eq_true (show e.2.1 ≠ id from c.1), decide_eq_true (show e.2.2.1 ≠ id from c.2), cond_true, cond_true] at hu
   rw [hu, ih]
theorem verts_stand (t7 : Bool) (t11 : Int) {vs : List Vx} {es : List Ed} {ds : List Int} (h : Ok vs es ds) : ∀ (m k j : Nat), vs.length - j ≤ m → m < k →
  f5_l14 k t7 (entsG vs es ds) t11 (j : Int) vs es ds = some (.inl ((t7, entsG vs es ds, t11, ()), (), ((vs, es, ds, ()), ()))) := by
 have n1 := h.nv
 have n2 := h.ne
 intro m
 induction m with
 | zero =>
  intro k j h1 h2
  obtain ⟨k, rfl⟩ : ∃ q, k = q + 1 := ⟨k - 1, by omega⟩
  unfold f5_l14
  rw [decide_eq_false (by omega)]
  rfl
 | succ m ih =>
  intro k j h1 h2
  obtain ⟨k, rfl⟩ : ∃ q, k = q + 1 := ⟨k - 1, by omega⟩
  by_cases hj : j < vs.length
  ·have hel : (entsG vs es ds).length = vs.length + 1 := by unfold entsG; simp
   have hje : j < (entsG vs es ds).length := by omega
   have hge : at_ tN (entsG vs es ds) (j : Int) = rowV es vs[j] := by
    have h3 : (entsG vs es ds)[j]? = some (rowV es vs[j]) := by
     unfold entsG
     rw [List.getElem?_append_left (by simpa using hj), List.getElem?_map, List.getElem?_eq_getElem hj]
     rfl
    exact (atN tN (entsG vs es ds) j hje).trans (Option.some.inj ((List.getElem?_eq_getElem hje).symm.trans h3))
   have hgv : at_ tV vs (j : Int) = vs[j] := atN tV vs j hj
   have hsz := ((ents_valid h).val (rowV es vs[j]) (List.mem_append_left _ (List.mem_map_of_mem (List.getElem_mem hj)))).2
   have h25 := f25_eq (rowV es vs[j]).2.1 (by omega)
   rw [parse_row h (List.getElem_mem hj)] at h25
   have hu := f5_l14.eq_2 t7 (entsG vs es ds) t11 (j : Int) vs es ds k
   rw [decide_eq_true (by omega), cond_true] at hu
   simp only [inRN, decide_eq_true hje, decide_eq_true hj, cond_true, hge, hgv] at hu
   refine hu.trans (bind_step h25 ?_)
   have hst := edges_stand t7 (entsG vs es ds) t11 (j : Int) vs es ds vs[j].1 vs[j].2.1 (by omega) es [] (((es.length : Int) - (0 : Int)).toNat + 1) rfl (by omega)
   have e1 : (!(decide (vs[j].1 = vs[j].1) && (decide (vs[j].2.1 = vs[j].2.1) && true))) = false := by simp
   show (bif decide ((0 : Int) ≠ 0) then _ else (bif (!(decide (vs[j].1 = vs[j].1) && (decide (vs[j].2.1 = vs[j].2.1) && true))) then _ else (bif decide ((rowV es vs[j]).1 ≠ vs[j].1) then _ else (f5_l21 t7 (entsG vs es ds) t11 (j : Int) (atE es vs[j].1) vs es ds vs[j].1 vs[j].2.1 (((es.length : Int) - (0 : Int)).toNat + 1) 0 0).bind _))) = _
   rw [decide_eq_false (show ¬ (0 : Int) ≠ 0 by simp), cond_false, e1, cond_false, decide_eq_false (show ¬ (rowV es vs[j]).1 ≠ vs[j].1 from fun hn => hn rfl), cond_false]
   refine bind_step hst ?_
   show (bif decide (((atE es vs[j].1).length : Int) ≠ ((atE es vs[j].1).length : Int)) then _ else f5_l14 k t7 (entsG vs es ds) t11 (IntKind.wrap .i64 ((j : Int) + 1)) vs es ds) = _
   rw [decide_eq_false (fun hn => hn rfl), cond_false, wS j (by omega)]
   exact ih k (j + 1) (by omega) (by omega)
  ·unfold f5_l14
   rw [decide_eq_false (by omega)]
   rfl
theorem sum_loop5 (t7 : Bool) (t9 : List En) (vs : List Vx) (es : List Ed) (ds : List Int) (hl : es.length ≤ 1000) (ha : asc kE es = true) (hn : ∀ e ∈ es, 0 ≤ e.1 ∧ e.1 ≤ 39) (k : Nat) (hk : es.length < k) :
  f5_l10 t7 t9 vs es ds k 0 0 = some ((t7, t9, (bitsE es : Int), ()), (), ((vs, es, ds, ()), ())) := by
 have hl := fold_loop tE (fun (acc : Int) (e : Ed) => acc + ((2 ^ e.1.toNat : Nat) : Int)) (fun k j acc => f5_l10 t7 t9 vs es ds k acc j) (fun r => ((t7, t9, r, ()), (), ((vs, es, ds, ()), ()))) (fun j acc => acc = ((bitsE (es.take j) : Nat) : Int)) es (by
  intro k j acc hI
  show f5_l10 t7 t9 vs es ds (k + 1) acc (j : Int) = _
  conv => lhs; unfold f5_l10
  by_cases hj : j < es.length
  ·have e1 : decide ((j : Int) < (es.length : Int)) = true := by simp; omega
   have hget : at_ tE es (j : Int) = es[j] := atN tE es j hj
   have h0 := hn _ (List.getElem_mem hj)
   have h1 := bits_lt es ha hn j hj
   have h2 := add1 (bitsE (es.take j)) (es[j]).1.toNat (by omega) h1
   rw [show (((es[j]).1.toNat : Nat) : Int) = (es[j]).1 by omega] at h2
   rw [dif_pos hj]
   simp only [e1, cond_true, inRN, decide_eq_true hj, wS j (by omega), hget, decide_eq_true h0.1]
   rw [hI, h2]
   congr 1
  ·have e1 : decide ((j : Int) < (es.length : Int)) = false := by simp; omega
   rw [dif_neg hj]
   simp only [e1, cond_false]) (by
  intro j acc hj hI
  show acc + ((2 ^ (es[j]).1.toNat : Nat) : Int) = _
  rw [hI, bits_take es j hj]
  omega)
 have h2 := hl es.length k 0 0 (by omega) hk rfl
 have h3 := fold_bits es 0
 rw [List.drop_zero, show (0 : Int) = ((0 : Nat) : Int) from rfl, h3, Nat.zero_add] at h2
 exact h2
theorem f5_eq (n : Int) (l : List (List Int)) (wide : Bool) (hn : i64 n) (hl : ∀ r ∈ l, ∀ x ∈ r, i64 x) (hll : l.length ≤ 9223372036854775807) : f5 n l wide = some (true, ()) := by
 obtain ⟨vs, es, ds, h12, hv, _⟩ := made_valid n l wide hn hl hll
 have h := ok_of _ _ _ hv
 have n1 := h.nv
 have n2 := h.ne
 have n3 := h.dl
 have hlen : (entsG vs es ds).length = vs.length + 1 := by unfold entsG; simp
 unfold f5
 refine bind_step sane_eq ?_
 refine bind_step h12 ?_
 refine bind_step (entries_p vs es ds hv) ?_
 show (bif decide (((entsG vs es ds).length : Int) ≠ (IntKind.wrap .i64 ((vs.length : Int) + (1 : Int)))) then some (false, ()) else (f5_l10 true (entsG vs es ds) vs es ds (((es.length : Int) - (0 : Int)).toNat + 1) 0 0).bind _) = _
 rw [wS vs.length (by omega), hlen, decide_eq_false (by simp), cond_false]
 refine bind_step (sum_loop5 true (entsG vs es ds) vs es ds (by omega) h.ae h.eid _ (by omega)) ?_
 refine bind_step (verts_stand true (bitsE es : Int) h vs.length (((vs.length : Int) - (0 : Int)).toNat + 1) 0 (by omega) (by omega)) ?_
 have hlast : at_ tN (entsG vs es ds) (vs.length : Int) = (63, encs (headN es ds), ()) := by
  have h3 : (entsG vs es ds)[vs.length]? = some (63, encs (headN es ds), ()) := by
   unfold entsG
   rw [List.getElem?_append_right (by simp)]
   simp
  exact (atN tN (entsG vs es ds) vs.length (by omega)).trans (Option.some.inj ((List.getElem?_eq_getElem (by omega)).symm.trans h3))
 have w1 : IntKind.wrap .i64 (((vs.length + 1 : Nat) : Int) - (1 : Int)) = (vs.length : Int) := by rw [wrap_i64 _ (by omega) (by omega)]; omega
 have hsz : (encs (headN es ds)).size ≤ 65536 := ((ents_valid h).val (63, encs (headN es ds), ()) (by unfold entsG; simp)).2
 have h27 := f27_eq (encs (headN es ds)) (by omega)
 rw [parseH_head h] at h27
 show (bif inR (IntKind.wrap .i64 (((entsG vs es ds).length : Int) - (1 : Int))) (entsG vs es ds).length then (f27 (at_ tN (entsG vs es ds) (IntKind.wrap .i64 (((entsG vs es ds).length : Int) - (1 : Int)))).2.1).bind _ else none) = _
 rw [hlen, w1, inRN, decide_eq_true (by omega), cond_true, hlast]
 refine bind_step h27 ?_
 show (bif decide ((bitsE es : Int) = (bitsE es : Int)) then (f30 ds ds).bind _ else _) = _
 rw [decide_eq_true rfl, cond_true]
 refine bind_step (f30_eq ds ds (by omega)) ?_
 simp only [decide_true]
theorem f5_all (x : tysDen f5_spec.args) (h : tysOk f5_spec.args x) : f5_spec.fn x = some (true, ()) := by
 obtain ⟨n, l, wide, u⟩ := x
 obtain ⟨h1, h2, _⟩ := h
 exact f5_eq n l wide (i64_of h1) (rows_of h2).2 (rows_of h2).1
end Go.V.G
