/- What is accepted for the root of a map is what the map has, or there is a collision. -/
import Derived.Test.YtccdkoimpoockaaDoorPRef2
set_option linter.all false
set_option linter.unusedVariables false
set_option linter.unusedSectionVars false
set_option linter.unusedSimpArgs false
namespace Go.V.G

theorem os_acc (K : List Int) (V : Int → ByteArray) {s : ByteArray} : ∀ (h i : Nat) (ps acc : List ByteArray), s ∈ acc → s ∈ OS K V h i ps acc
  | 0, i, ps, acc, hs => by
    unfold OS
    split
    · split
      · exact hs
      · simp [hs]
    · exact hs
  | h + 1, i, ps, acc, hs => by
    unfold OS
    have h1 := os_acc K V h (2 * i) ps acc hs
    have h2 := os_acc K V h (2 * i + 1) (ps.drop (mn K h (2 * i))) _ h1
    split
    · split
      · exact h2
      · simp [h2]
    · exact hs

theorem OS_size {K : List Int} {V : Int → ByteArray} (hV : ∀ k, (V k).size ≤ 65536) : ∀ (h i : Nat) (ps acc : List ByteArray), (∀ s ∈ ps, s.size = 32) → (∀ s ∈ acc, s.size ≤ 1000000) → ∀ s ∈ OS K V h i ps acc, s.size ≤ 1000000
  | 0, i, ps, acc, hp, ha, s, hs => by
    unfold OS at hs
    split at hs
    · split at hs
      · exact ha s hs
      · rcases List.mem_append.1 hs with hs | hs
        · exact ha s hs
        · rw [List.mem_singleton.1 hs, leafS_size]
          have := hV ((i : Int) - 64)
          omega
    · exact ha s hs
  | h + 1, i, ps, acc, hp, ha, s, hs => by
    unfold OS at hs
    have hp2 : ∀ s ∈ ps.drop (mn K h (2 * i)), s.size = 32 := fun s hs => hp s (List.mem_of_mem_drop hs)
    have h2 := OS_size (K := K) hV h (2 * i + 1) (ps.drop (mn K h (2 * i))) _ hp2 (OS_size (K := K) hV h (2 * i) ps acc hp ha)
    split at hs
    · split at hs
      · exact h2 s hs
      · rcases List.mem_append.1 hs with hs | hs
        · exact h2 s hs
        · rw [List.mem_singleton.1 hs, joinS_size, sd_size (K := K) hV _ _ _ hp, sd_size (K := K) hV _ _ _ hp2]
          omega
    · exact ha s hs

theorem bind_part {l : List Ent} (hl : ∀ e ∈ l, e.2.1.size ≤ 65536) {K : List Int} {V : Int → ByteArray} (hV : ∀ k, (V k).size ≤ 65536) {A B : List ByteArray} (hc : Clean A B) : ∀ (h i : Nat) (ps acc acc' : List ByteArray), Nod h i → (∀ s ∈ ps, s.size = 32) →
    (∀ s ∈ Hs l h (low i) acc, s ∈ A) → (∀ s ∈ OS K V h i ps acc', s ∈ B) → D l h (low i) = sd K V h i ps → ∀ k ∈ K, inW k i = true → atK l k = V k
  | 0, i, ps, acc, acc', n, hp, hA, hB, heq, k, hk, hw => by
    have hm : M K i = true := List.any_eq_true.2 ⟨k, hk, hw⟩
    have ei : (i : Int) - 64 = k := by
      unfold inW at hw
      rw [← n.hh, low_leaf n] at hw
      simp at hw
      omega
    have el : low i = k := by rw [low_leaf n, ei]
    have es : sd K V 0 i ps = leafD k (V k) := by unfold sd; rw [if_pos hm, ei]
    have eo : OS K V 0 i ps acc' = if V k = emp then acc' else acc' ++ [leafS k (V k)] := by unfold OS; rw [if_pos hm, ei]
    rw [el] at hA heq
    rw [es] at heq
    rw [eo] at hB
    unfold D leafD at heq
    by_cases h1 : atK l k = emp
    · by_cases h2 : V k = emp
      · rw [h1, h2]
      · rw [if_pos h1, if_neg h2] at heq
        exact absurd heq.symm (hc.right _ (hB _ (by rw [if_neg h2]; simp)))
    · by_cases h2 : V k = emp
      · rw [if_neg h1, if_pos h2] at heq
        exact absurd heq (hc.left _ (hA _ (by unfold Hs; rw [if_neg h1]; simp)))
      · rw [if_neg h1, if_neg h2] at heq
        exact leafS_inj (hc.inj _ (hA _ (by unfold Hs; rw [if_neg h1]; simp)) _ (hB _ (by rw [if_neg h2]; simp)) heq)
  | h + 1, i, ps, acc, acc', n, hp, hA, hB, heq, k, hk, hw => by
    have hm : M K i = true := List.any_eq_true.2 ⟨k, hk, hw⟩
    have hi := n.succ
    have hp2 : ∀ s ∈ ps.drop (mn K h (2 * i)), s.size = 32 := fun s hs => hp s (List.mem_of_mem_drop hs)
    have ll : low (2 * i) = low i := low_left n.pos hi
    have lr : low (2 * i + 1) = low i + 2 ^ h := by rw [low_right n.pos hi, ← n.left.hh]
    have es : sd K V (h + 1) i ps = joinD (sd K V h (2 * i) ps) (sd K V h (2 * i + 1) (ps.drop (mn K h (2 * i)))) := by rw [sd, if_pos hm]
    have eo : OS K V (h + 1) i ps acc' = (if sd K V h (2 * i) ps = zeroD ∧ sd K V h (2 * i + 1) (ps.drop (mn K h (2 * i))) = zeroD then OS K V h (2 * i + 1) (ps.drop (mn K h (2 * i))) (OS K V h (2 * i) ps acc')
       else OS K V h (2 * i + 1) (ps.drop (mn K h (2 * i))) (OS K V h (2 * i) ps acc') ++ [joinS (sd K V h (2 * i) ps) (sd K V h (2 * i + 1) (ps.drop (mn K h (2 * i))))]) := by rw [OS, if_pos hm]
    rw [es] at heq
    rw [eo] at hB
    have s1 := sd_size (K := K) hV h (2 * i) ps hp
    have s2 := sd_size (K := K) hV h (2 * i + 1) (ps.drop (mn K h (2 * i))) hp2
    have subA : ∀ s ∈ Hs l h (low i + 2 ^ h) (Hs l h (low i) acc), s ∈ A := fun s hs => hA s (by unfold Hs; split; exact hs; simp [hs])
    have subB : ∀ s ∈ OS K V h (2 * i + 1) (ps.drop (mn K h (2 * i))) (OS K V h (2 * i) ps acc'), s ∈ B := fun s hs => hB s (by split; exact hs; simp [hs])
    have both : D l h (low i) = sd K V h (2 * i) ps ∧ D l h (low i + 2 ^ h) = sd K V h (2 * i + 1) (ps.drop (mn K h (2 * i))) := by
      unfold D joinD at heq
      by_cases h1 : D l h (low i) = zeroD ∧ D l h (low i + 2 ^ h) = zeroD
      · by_cases h2 : sd K V h (2 * i) ps = zeroD ∧ sd K V h (2 * i + 1) (ps.drop (mn K h (2 * i))) = zeroD
        · exact ⟨h1.1.trans h2.1.symm, h1.2.trans h2.2.symm⟩
        · rw [if_pos h1, if_neg h2] at heq
          exact absurd heq.symm (hc.right _ (hB _ (by rw [if_neg h2]; simp)))
      · by_cases h2 : sd K V h (2 * i) ps = zeroD ∧ sd K V h (2 * i + 1) (ps.drop (mn K h (2 * i))) = zeroD
        · rw [if_neg h1, if_pos h2] at heq
          exact absurd heq (hc.left _ (hA _ (by unfold Hs; rw [if_neg h1]; simp)))
        · rw [if_neg h1, if_neg h2] at heq
          exact joinS_inj (D_size hl _ _) s1 (hc.inj _ (hA _ (by unfold Hs; rw [if_neg h1]; simp)) _ (hB _ (by rw [if_neg h2]; simp)) heq)
    have wb : inW k (2 * i) = true ∨ inW k (2 * i + 1) = true := by
      unfold inW at hw ⊢
      rw [(hgt_facts i hi n.pos).2, lr, ll, ← n.left.hh]
      rw [← n.hh] at hw
      have p : (2 : Int) ^ (h + 1) = 2 ^ h * 2 := rfl
      rw [p] at hw
      simp only [Bool.and_eq_true, decide_eq_true_eq] at hw ⊢
      omega
    rcases wb with wb | wb
    · exact bind_part hl hV hc h (2 * i) ps acc acc' n.left hp (fun s hs => subA s (mem_acc l h _ _ (by rw [ll] at hs; exact hs))) (fun s hs => subB s (os_acc K V h _ _ _ hs)) (by rw [ll]; exact both.1) k hk wb
    · exact bind_part hl hV hc h (2 * i + 1) (ps.drop (mn K h (2 * i))) _ _ n.right hp2 (fun s hs => subA s (by rw [lr] at hs; exact hs)) subB (by rw [lr]; exact both.2) k hk wb

/-- An opening that stands for the root of a map has the map's values, or there is a collision. -/
theorem bind_root {l : List Ent} (hl : Valid l) {K : List Int} {V P : List ByteArray} (hf : formed K V P = true) (hr : sd K (vF K V) 6 1 P = rootD l) (hc : Clean (hashed l) (OS K (vF K V) 6 1 P [])) : ∀ k ∈ K, atK l k = vF K V k := by
  obtain ⟨h1, h2, h3, h4, h5⟩ := formed_facts hf
  have l1 : low 1 = 0 := by kernel_rfl
  intro k hk
  have hkr := h1.key k hk
  refine bind_part (fun e he => (hl.val e he).2) (vF_size h3) hc 6 1 P [] [] nod_root h4 (by rw [l1]; exact fun _ h => h) (fun _ h => h) (by rw [l1, hr]; rfl) k hk ?_
  unfold inW
  rw [l1, show hgt 1 = 6 by kernel_rfl]
  simp; omega

theorem prs_vals (f : Int → ByteArray) : ∀ (K : List Int), ∀ e ∈ prs K (K.map f), e.1 ∈ K ∧ e.2.1 = f e.1
  | [], e, h => by cases h
  | k :: K, e, h => by
    unfold prs at h
    simp only [List.map_cons] at h
    split at h
    · obtain ⟨h1, h2⟩ := prs_vals f K e h
      exact ⟨by simp [h1], h2⟩
    · rcases List.mem_cons.1 h with rfl | h
      · exact ⟨by simp, rfl⟩
      · obtain ⟨h1, h2⟩ := prs_vals f K e h
        exact ⟨by simp [h1], h2⟩

theorem abs_vals (f : Int → ByteArray) : ∀ (K : List Int), ∀ k ∈ abs_ K (K.map f), k ∈ K ∧ f k = emp
  | [], e, h => by cases h
  | k :: K, e, h => by
    unfold abs_ at h
    simp only [List.map_cons] at h
    split at h
    · rename_i hz
      rcases List.mem_cons.1 h with rfl | h
      · exact ⟨by simp, hz⟩
      · obtain ⟨h1, h2⟩ := abs_vals f K e h
        exact ⟨by simp [h1], h2⟩
    · obtain ⟨h1, h2⟩ := abs_vals f K e h
      exact ⟨by simp [h1], h2⟩

theorem shown_len' (f : Int → ByteArray) : ∀ K : List Int, (prs K (K.map f)).length + (abs_ K (K.map f)).length = K.length
  | [] => rfl
  | k :: K => by
    have ih := shown_len' f K
    unfold prs abs_
    simp only [List.map_cons]
    by_cases h : f k = emp
    · rw [if_pos h, if_pos h]; simp only [List.length_cons]; omega
    · rw [if_neg h, if_neg h]; simp only [List.length_cons]; omega

end Go.V.G
