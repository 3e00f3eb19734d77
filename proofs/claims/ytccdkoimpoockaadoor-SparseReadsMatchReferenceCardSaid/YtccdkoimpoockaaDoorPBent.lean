/- Openings that are changed. -/
import Derived.Test.YtccdkoimpoockaaDoorPRef2
import Derived.Test.YtccdkoimpoockaaDoorGB
set_option linter.all false
set_option linter.unusedVariables false
set_option linter.unusedSectionVars false
set_option linter.unusedSimpArgs false
namespace Go.V.G

def bentTail (a0 : ((List Int) × ((List ByteArray) × ((List ByteArray) × Unit)))) (a1 : (List Int)) (k n : Int) : Option (((List Int) × ((List ByteArray) × ((List ByteArray) × Unit))) × Unit) :=
  bif (inR (0 : Int) 3) then
    (f21 (at_ (.int .i64) a1 (0 : Int)) (7 : Int)).bind fun y5 =>
    bif (decide (y5.1 = (0 : Int))) then
      let v6 : Bool := (decide ((a0.1.length : Int) > (0 : Int)))
      bif v6 then
        bif (inR (2 : Int) 3) then
          (f21 (at_ (.int .i64) a1 (2 : Int)) (66 : Int)).bind fun y7 =>
          bif (inR k a0.1.length) then some (((a0.1.set (Int.toNat k) (IntKind.wrap .i64 (y7.1 - (1 : Int)))), a0.2), ()) else none
        else none
      else
        some (a0, ())
    else
      bif (decide (y5.1 = (1 : Int))) then
        let v8 : Bool := (decide ((a0.2.1.length : Int) > (0 : Int)))
        bif v8 then
          bif (inR (2 : Int) 3) then
            (f21 (at_ (.int .i64) a1 (2 : Int)) (3 : Int)).bind fun y9 =>
            bif (inR y9.1 ([(⟨#[]⟩ : ByteArray), (⟨#[97]⟩ : ByteArray), (⟨#[122, 122]⟩ : ByteArray)] : List ByteArray).length) then
              let v10 : ByteArray := (at_ .str ([(⟨#[]⟩ : ByteArray), (⟨#[97]⟩ : ByteArray), (⟨#[122, 122]⟩ : ByteArray)] : List ByteArray) y9.1)
              bif (inR k a0.2.1.length) then some ((a0.1, ((a0.2.1.set (Int.toNat k) v10), a0.2.2)), ()) else none
            else none
          else none
        else
          some (a0, ())
      else
        bif (decide (y5.1 = (2 : Int))) then
          let v11 : Bool := (decide ((a0.2.2.1.length : Int) > (0 : Int)))
          bif v11 then
            bif (inR n a0.2.2.1.length) then
              (f53 (at_ .str a0.2.2.1 n)).bind fun y12 =>
              bif (inR n a0.2.2.1.length) then some ((a0.1, (a0.2.1, ((a0.2.2.1.set (Int.toNat n) y12.1), ()))), ()) else none
            else none
          else
            some (a0, ())
        else
          bif (decide (y5.1 = (3 : Int))) then
            let v13 : Bool := (decide ((a0.2.2.1.length : Int) > (0 : Int)))
            bif v13 then
              (f34 ).bind fun y14 =>
              bif (inR n a0.2.2.1.length) then some ((a0.1, (a0.2.1, ((a0.2.2.1.set (Int.toNat n) y14.1), ()))), ()) else none
            else
              some (a0, ())
          else
            bif (decide (y5.1 = (4 : Int))) then
              let v15 : Bool := (decide ((a0.2.2.1.length : Int) > (1 : Int)))
              bif v15 then
                bif (inR (2 : Int) 3) then
                  (f21 (at_ (.int .i64) a1 (2 : Int)) (a0.2.2.1.length : Int)).bind fun y16 =>
                  bif (inR y16.1 a0.2.2.1.length) then bif (inR n a0.2.2.1.length) then bif (inR n a0.2.2.1.length) then bif (inR y16.1 (a0.2.2.1.set (Int.toNat n) (at_ .str a0.2.2.1 y16.1)).length) then some ((a0.1, (a0.2.1, (((a0.2.2.1.set (Int.toNat n) (at_ .str a0.2.2.1 y16.1)).set (Int.toNat y16.1) (at_ .str a0.2.2.1 n)), ()))), ()) else none else none else none else none
                else none
              else
                some (a0, ())
            else
              bif (decide (y5.1 = (5 : Int))) then
                let v17 : Bool := (decide ((a0.2.2.1.length : Int) > (0 : Int)))
                bif v17 then
                  bif (cutOk a0.2.2.1.length (some (1 : Int)) none) then some ((a0.1, (a0.2.1, (((a0.2.2.1.drop (Int.toNat (1 : Int))).take (cutLen a0.2.2.1.length (some (1 : Int)) none)), ()))), ()) else none
                else
                  some (a0, ())
              else
                bif (decide (y5.1 = (6 : Int))) then
                  let v18 : Bool := (decide ((a0.1.length : Int) > (0 : Int)))
                  bif v18 then
                    bif (cutOk a0.1.length none (some k) && decide (k = k)) then bif (cutOk a0.1.length (some (IntKind.wrap .i64 (k + (1 : Int)))) none) then bif (decide (((a0.1.drop 0).take (cutLen a0.1.length none (some k))).length + ((a0.1.drop (Int.toNat (IntKind.wrap .i64 (k + (1 : Int))))).take (cutLen a0.1.length (some (IntKind.wrap .i64 (k + (1 : Int)))) none)).length ≤ appLim)) then bif (cutOk a0.2.1.length none (some k) && decide (k = k)) then bif (cutOk a0.2.1.length (some (IntKind.wrap .i64 (k + (1 : Int)))) none) then bif (decide (((a0.2.1.drop 0).take (cutLen a0.2.1.length none (some k))).length + ((a0.2.1.drop (Int.toNat (IntKind.wrap .i64 (k + (1 : Int))))).take (cutLen a0.2.1.length (some (IntKind.wrap .i64 (k + (1 : Int)))) none)).length ≤ appLim)) then some (((((a0.1.drop 0).take (cutLen a0.1.length none (some k))) ++ ((a0.1.drop (Int.toNat (IntKind.wrap .i64 (k + (1 : Int))))).take (cutLen a0.1.length (some (IntKind.wrap .i64 (k + (1 : Int)))) none))), ((((a0.2.1.drop 0).take (cutLen a0.2.1.length none (some k))) ++ ((a0.2.1.drop (Int.toNat (IntKind.wrap .i64 (k + (1 : Int))))).take (cutLen a0.2.1.length (some (IntKind.wrap .i64 (k + (1 : Int)))) none))), a0.2.2)), ()) else none else none else none else none else none else none
                  else
                    some (a0, ())
                else
                  some (a0, ())
  else none

/-- What an opening that is changed keeps to. -/
structure OpOk (o : Opening) : Prop where
  vk : o.2.1.length = o.1.length
  kl : o.1.length ≤ 64
  pl : o.2.2.1.length ≤ 64
  ps : ∀ s ∈ o.2.2.1, s.size ≤ 1000000

theorem mem_set_size {l : List ByteArray} {i : Nat} {x : ByteArray} (h : ∀ s ∈ l, s.size ≤ 1000000) (hx : x.size ≤ 1000000) : ∀ s ∈ l.set i x, s.size ≤ 1000000 := by
  intro s hs
  rcases List.mem_or_eq_of_mem_set hs with hs | rfl
  · exact h s hs
  · exact hx

theorem at_mem {l : List ByteArray} {n : Int} (h0 : 0 ≤ n) (h1 : n < l.length) : at_ .str l n ∈ l := by
  obtain ⟨j, rfl⟩ : ∃ j : Nat, n = (j : Int) := ⟨n.toNat, by omega⟩
  have hj : j < l.length := by omega
  rw [at_get (T := .str) (List.getElem?_eq_getElem hj)]
  exact List.getElem_mem hj

theorem tail_ok {o : Opening} (ho : OpOk o) {h0 h1 h2 : Int} (r0 : -9223372036854775808 ≤ h0 ∧ h0 ≤ 9223372036854775807) (r2 : -9223372036854775808 ≤ h2 ∧ h2 ≤ 9223372036854775807) {k n : Int}
    (hk : o.1.length ≠ 0 → 0 ≤ k ∧ k < o.1.length) (hn : o.2.2.1.length ≠ 0 → 0 ≤ n ∧ n < o.2.2.1.length) : ∃ o', bentTail o [h0, h1, h2] k n = some (o', ()) ∧ OpOk o' := by
  obtain ⟨K, V, P, u⟩ := o
  have e1 : V.length = K.length := ho.vk
  have e2 : K.length ≤ 64 := ho.kl
  have e3 : P.length ≤ 64 := ho.pl
  have e4 : ∀ s ∈ P, s.size ≤ 1000000 := ho.ps
  simp only at hk hn
  have j0 : inR (0 : Int) 3 = true := by kernel_rfl
  have j2 : inR (2 : Int) 3 = true := by kernel_rfl
  have g0 : at_ (.int .i64) ([h0, h1, h2] : List Int) 0 = h0 := rfl
  have g2 : at_ (.int .i64) ([h0, h1, h2] : List Int) 2 = h2 := rfl
  obtain ⟨c, _, f0, c1, c2⟩ := pick_eq h0 7 r0 (by omega)
  unfold bentTail
  simp only [j0, j2, cond_true, g0, g2, f0, Option.bind_some]
  by_cases q0 : c = 0
  · rw [dec_t q0, cond_true]
    by_cases h : (K.length : Int) > 0
    · rw [dec_t h, cond_true]
      obtain ⟨d, _, f1, d1, d2⟩ := pick_eq h2 66 r2 (by omega)
      obtain ⟨k1, k2⟩ := hk (by omega)
      simp only [f1, Option.bind_some, inR_of k1 k2, cond_true]
      exact ⟨_, rfl, by show V.length = (List.set _ _ _).length; rw [List.length_set]; exact e1, by show (List.set _ _ _).length ≤ 64; rw [List.length_set]; exact e2, e3, e4⟩
    · rw [dec_f h]; exact ⟨_, rfl, ho⟩
  · rw [dec_f q0, cond_false]
    by_cases q1 : c = 1
    · rw [dec_t q1, cond_true]
      by_cases h : (V.length : Int) > 0
      · rw [dec_t h, cond_true]
        obtain ⟨d, _, f1, d1, d2⟩ := pick_eq h2 3 r2 (by omega)
        obtain ⟨k1, k2⟩ := hk (by omega)
        simp only [f1, Option.bind_some]
        rw [show inR d ([(⟨#[]⟩ : ByteArray), (⟨#[97]⟩ : ByteArray), (⟨#[122, 122]⟩ : ByteArray)] : List ByteArray).length = true from inR_of d1 d2, inR_of k1 (show k < V.length by omega)]
        exact ⟨_, rfl, by show (List.set _ _ _).length = K.length; rw [List.length_set]; exact e1, e2, e3, e4⟩
      · rw [dec_f h]; exact ⟨_, rfl, ho⟩
    · rw [dec_f q1, cond_false]
      by_cases q2 : c = 2
      · rw [dec_t q2, cond_true]
        by_cases h : (P.length : Int) > 0
        · rw [dec_t h, cond_true]
          obtain ⟨n1, n2⟩ := hn (by omega)
          have hs := sha_spec (at_ .str P n) (e4 _ (at_mem n1 n2))
          simp only [inR_of n1 n2, cond_true, hs.2.1, Option.bind_some]
          exact ⟨_, rfl, e1, e2, by show (List.set _ _ _).length ≤ 64; rw [List.length_set]; exact e3, mem_set_size e4 (by rw [hs.2.2]; omega)⟩
        · rw [dec_f h]; exact ⟨_, rfl, ho⟩
      · rw [dec_f q2, cond_false]
        by_cases q3 : c = 3
        · rw [dec_t q3, cond_true]
          by_cases h : (P.length : Int) > 0
          · rw [dec_t h, cond_true]
            obtain ⟨n1, n2⟩ := hn (by omega)
            simp only [zero_eq.2, Option.bind_some, inR_of n1 n2, cond_true]
            exact ⟨_, rfl, e1, e2, by show (List.set _ _ _).length ≤ 64; rw [List.length_set]; exact e3, mem_set_size e4 (by rw [zero_size]; omega)⟩
          · rw [dec_f h]; exact ⟨_, rfl, ho⟩
        · rw [dec_f q3, cond_false]
          by_cases q4 : c = 4
          · rw [dec_t q4, cond_true]
            by_cases h : (P.length : Int) > 1
            · rw [dec_t h, cond_true]
              obtain ⟨n1, n2⟩ := hn (by omega)
              obtain ⟨d, _, f1, d1, d2⟩ := pick_eq h2 P.length r2 (by omega)
              simp only [f1, Option.bind_some, inR_of n1 n2, inR_of d1 d2, List.length_set, cond_true]
              exact ⟨_, rfl, e1, e2, by show (List.set (List.set _ _ _) _ _).length ≤ 64; rw [List.length_set, List.length_set]; exact e3, mem_set_size (mem_set_size e4 (e4 _ (at_mem d1 d2))) (e4 _ (at_mem n1 n2))⟩
            · rw [dec_f h]; exact ⟨_, rfl, ho⟩
          · rw [dec_f q4, cond_false]
            by_cases q5 : c = 5
            · rw [dec_t q5, cond_true]
              by_cases h : (P.length : Int) > 0
              · rw [dec_t h, cond_true, show cutOk P.length (some (1 : Int)) none = true by unfold cutOk; simp; omega]
                exact ⟨_, rfl, e1, e2, by show (List.take _ (List.drop _ _)).length ≤ 64; rw [List.length_take, List.length_drop]; omega, fun s hs => e4 s (List.mem_of_mem_drop (List.mem_of_mem_take hs))⟩
              · rw [dec_f h]; exact ⟨_, rfl, ho⟩
            · rw [dec_f q5, cond_false, dec_t (show c = 6 by omega), cond_true]
              by_cases h : (K.length : Int) > 0
              · rw [dec_t h, cond_true]
                obtain ⟨k1, k2⟩ := hk (by omega)
                have w : IntKind.wrap .i64 (k + 1) = k + 1 := wrapS (by omega) (by omega)
                have a1 : ∀ N : Nat, k < N → cutOk N none (some k) = true := fun N hN => by unfold cutOk; simp; omega
                have a2 : ∀ N : Nat, k < N → cutOk N (some (k + 1)) none = true := fun N hN => by unfold cutOk; simp; omega
                simp only [w, a1 K.length k2, a2 K.length k2, a1 V.length (by omega), a2 V.length (by omega), decide_true, Bool.and_self, cond_true]
                have l1 : ∀ (α : Type) (L : List α) (x : Nat), L.length ≤ 64 → ((L.drop 0).take (cutLen L.length none (some k))).length + ((L.drop x).take (cutLen L.length (some (k + 1)) none)).length ≤ appLim := by
                  intro α L x hL
                  unfold appLim
                  rw [List.length_take, List.length_take, List.length_drop, List.length_drop]
                  omega
                rw [dec_t (l1 _ K _ (by omega)), dec_t (l1 _ V _ (by omega))]
                simp only [cond_true]
                have c1' : ∀ N : Nat, cutLen N none (some k) = k.toNat := fun N => by unfold cutLen; rfl
                have c2' : ∀ N : Nat, cutLen N (some (k + 1)) none = N - (k + 1).toNat := fun N => by unfold cutLen; rfl
                refine ⟨_, rfl, ?_, ?_, e3, e4⟩
                · show (List.take _ _ ++ List.take _ _).length = (List.take _ _ ++ List.take _ _).length
                  simp only [List.length_append, List.length_take, List.length_drop, c1', c2', e1]
                · show (List.take _ _ ++ List.take _ _).length ≤ 64
                  simp only [List.length_append, List.length_take, List.length_drop, c1', c2']
                  omega
              · rw [dec_f h]; exact ⟨_, rfl, ho⟩

theorem cond_of {α : Type} {b : Bool} {x y : α} (h : b = true) : (bif b then x else y) = x := by rw [h]; rfl
theorem cond_no {α : Type} {b : Bool} {x y : α} (h : b = false) : (bif b then x else y) = y := by rw [h]; rfl

theorem bent_ok {o : Opening} (ho : OpOk o) {h0 h1 h2 : Int} (r0 : -9223372036854775808 ≤ h0 ∧ h0 ≤ 9223372036854775807) (r1 : -9223372036854775808 ≤ h1 ∧ h1 ≤ 9223372036854775807) (r2 : -9223372036854775808 ≤ h2 ∧ h2 ≤ 9223372036854775807) :
    ∃ o', f22 o [h0, h1, h2] = some (o', ()) ∧ OpOk o' := by
  have e1 := ho.vk
  have e2 := ho.kl
  have e3 := ho.pl
  have j1 : inR (1 : Int) 3 = true := by kernel_rfl
  unfold f22
  have lim1 : decide (o.1.length ≤ appLim) = true := dec_t (by unfold appLim; omega)
  have lim2 : decide (o.2.1.length ≤ appLim) = true := dec_t (by unfold appLim; omega)
  have lim3 : decide (o.2.2.1.length ≤ appLim) = true := dec_t (by unfold appLim; omega)
  by_cases hk : (o.1.length : Int) > 0
  · obtain ⟨k, _, f1, k1, k2⟩ := pick_eq h1 o.1.length r1 hk
    by_cases hn : (o.2.2.1.length : Int) > 0
    · obtain ⟨n, _, f2, n1, n2⟩ := pick_eq h1 o.2.2.1.length r1 hn
      obtain ⟨o', q1, q2⟩ := tail_ok ho (h1 := h1) r0 r2 (k := k) (n := n) (fun _ => ⟨k1, k2⟩) (fun _ => ⟨n1, n2⟩)
      refine ⟨o', (cond_of lim1).trans ((cond_of lim2).trans ((cond_of lim3).trans ((cond_of (dec_t hk)).trans ((cond_of j1).trans (bindE f1 ((cond_of (dec_t hn)).trans ((cond_of j1).trans (bindE f2 ?_)))))))), q2⟩
      exact q1
    · obtain ⟨o', q1, q2⟩ := tail_ok ho (h1 := h1) r0 r2 (k := k) (n := 0) (fun _ => ⟨k1, k2⟩) (fun h => by omega)
      refine ⟨o', (cond_of lim1).trans ((cond_of lim2).trans ((cond_of lim3).trans ((cond_of (dec_t hk)).trans ((cond_of j1).trans (bindE f1 ((cond_no (dec_f hn)).trans ?_)))))), q2⟩
      exact q1
  · by_cases hn : (o.2.2.1.length : Int) > 0
    · obtain ⟨n, _, f2, n1, n2⟩ := pick_eq h1 o.2.2.1.length r1 hn
      obtain ⟨o', q1, q2⟩ := tail_ok ho (h1 := h1) r0 r2 (k := 0) (n := n) (fun h => by omega) (fun _ => ⟨n1, n2⟩)
      refine ⟨o', (cond_of lim1).trans ((cond_of lim2).trans ((cond_of lim3).trans ((cond_no (dec_f hk)).trans ((cond_of (dec_t hn)).trans ((cond_of j1).trans (bindE f2 ?_)))))), q2⟩
      exact q1
    · obtain ⟨o', q1, q2⟩ := tail_ok ho (h1 := h1) r0 r2 (k := 0) (n := 0) (fun h => by omega) (fun h => by omega)
      refine ⟨o', (cond_of lim1).trans ((cond_of lim2).trans ((cond_of lim3).trans ((cond_no (dec_f hk)).trans ((cond_no (dec_f hn)).trans ?_)))), q2⟩
      exact q1

theorem opn_ok {l : List Ent} (hl : Valid l) {K : List Int} (hK : KeysOk K) : OpOk (opn l K) := by
  have hp := pc_len K (Nd l) 6 1
  have hp6 : 2 ^ 6 = 64 := rfl
  refine ⟨List.length_map .., hK.len, by show (pc K (Nd l) 6 1).length ≤ 64; omega, fun s hs => ?_⟩
  have := pc_size (fun e he => (hl.val e he).2) 6 1 s hs
  omega

end Go.V.G
