/- The examples of the chapter, evaluated. -/
import Derived.Test.YtccdkoimpoockaaDoorPEx2
set_option linter.all false
set_option linter.unusedVariables false
set_option linter.unusedSectionVars false
set_option linter.unusedSimpArgs false
namespace Go.V.G
theorem ex_read1 : f23 sv6 ([5], [sa], zs 6, ()) = some ([e5], [], true, ()) := by kernel_rfl
theorem ex_update : f27 zeroD ([5], [emp], zs 6, ()) [e5] = some (sv6, true, ()) := by kernel_rfl

theorem ofRef {s d : ByteArray} (hs : s.size ≤ 1000000) (h : f53 s = some (d, ())) : f35 s = some (d, ()) := by
  obtain ⟨h1, h2, _⟩ := sha_spec s hs
  rw [h2] at h
  rw [h1]
  exact h

theorem sv0_size : sv0.size = 32 := rfl
theorem sv0_eq : f35 exIn = some (sv0, ()) := ofRef (by show (3 : Nat) ≤ _; omega) sv0_ref
theorem sv1_eq : f35 (joinS zeroD sv0) = some (sv1, ()) := ofRef (by rw [joinS_size, zero_size]; show 32 + 32 + 1 ≤ _; omega) sv1_ref
theorem sv2_eq : f35 (joinS sv1 zeroD) = some (sv2, ()) := ofRef (by rw [joinS_size, zero_size]; show 32 + 32 + 1 ≤ _; omega) sv2_ref
theorem sv3_eq : f35 (joinS zeroD sv2) = some (sv3, ()) := ofRef (by rw [joinS_size, zero_size]; show 32 + 32 + 1 ≤ _; omega) sv3_ref
theorem sv4_eq : f35 (joinS sv3 zeroD) = some (sv4, ()) := ofRef (by rw [joinS_size, zero_size]; show 32 + 32 + 1 ≤ _; omega) sv4_ref
theorem sv5_eq : f35 (joinS sv4 zeroD) = some (sv5, ()) := ofRef (by rw [joinS_size, zero_size]; show 32 + 32 + 1 ≤ _; omega) sv5_ref
theorem sv6_eq : f35 (joinS sv5 zeroD) = some (sv6, ()) := ofRef (by rw [joinS_size, zero_size]; show 32 + 32 + 1 ≤ _; omega) sv6_ref

theorem e5_valid : Valid [e5] := by
  refine ⟨fun e he => ?_, fun e he => ?_, by simp⟩
  · simp only [List.mem_singleton] at he; subst he; decide
  · simp only [List.mem_singleton] at he; subst he; decide

theorem D_zero {l : List Ent} : ∀ (h : Nat) (low : Int), (∀ j : Nat, j < 2 ^ h → atK l (low + j) = emp) → D l h low = zeroD
  | 0, low, hz => by
    have := hz 0 (by simp)
    simp only [Int.natCast_zero, Int.add_zero] at this
    unfold D leafD
    rw [if_pos this]
  | h + 1, low, hz => by
    have hp : 2 ^ (h + 1) = 2 ^ h + 2 ^ h := by omega
    have h1 := D_zero (l := l) h low (fun j hj => hz j (by omega))
    have h2 := D_zero (l := l) h (low + 2 ^ h) (fun j hj => by
      have := hz (2 ^ h + j) (by omega)
      have e : low + ((2 ^ h + j : Nat) : Int) = low + 2 ^ h + j := by push_cast; omega
      rw [e] at this
      exact this)
    unfold D joinD
    rw [if_pos ⟨h1, h2⟩]

theorem atK_e5 {j : Int} (h : j ≠ 5) : atK [e5] j = emp := by
  unfold atK
  rw [if_neg (fun e => h e.symm)]
  rfl

theorem sh {s d : ByteArray} (h : f35 s = some (d, ())) : sha s = d := by unfold sha; rw [h]

theorem root_e5 : rootD [e5] = sv6 := by
  have n0 : ¬ (zeroD = zeroD ∧ sv0 = zeroD) := fun h => absurd (show decide (sv0 = zeroD) = true from decide_eq_true h.2) (by rw [show decide (sv0 = zeroD) = false by kernel_rfl]; decide)
  have n1 : ¬ (sv1 = zeroD ∧ zeroD = zeroD) := fun h => absurd (show decide (sv1 = zeroD) = true from decide_eq_true h.1) (by rw [show decide (sv1 = zeroD) = false by kernel_rfl]; decide)
  have n2 : ¬ (zeroD = zeroD ∧ sv2 = zeroD) := fun h => absurd (show decide (sv2 = zeroD) = true from decide_eq_true h.2) (by rw [show decide (sv2 = zeroD) = false by kernel_rfl]; decide)
  have n3 : ¬ (sv3 = zeroD ∧ zeroD = zeroD) := fun h => absurd (show decide (sv3 = zeroD) = true from decide_eq_true h.1) (by rw [show decide (sv3 = zeroD) = false by kernel_rfl]; decide)
  have n4 : ¬ (sv4 = zeroD ∧ zeroD = zeroD) := fun h => absurd (show decide (sv4 = zeroD) = true from decide_eq_true h.1) (by rw [show decide (sv4 = zeroD) = false by kernel_rfl]; decide)
  have n5 : ¬ (sv5 = zeroD ∧ zeroD = zeroD) := fun h => absurd (show decide (sv5 = zeroD) = true from decide_eq_true h.1) (by rw [show decide (sv5 = zeroD) = false by kernel_rfl]; decide)
  have d0 : D [e5] 0 5 = sv0 := by
    show leafD 5 (atK [e5] 5) = sv0
    have : atK [e5] 5 = sa := rfl
    rw [this]
    unfold leafD
    rw [if_neg (fun h => absurd (show decide (sa = emp) = true from decide_eq_true h) (by rw [show decide (sa = emp) = false by kernel_rfl]; decide))]
    have : leafS 5 sa = exIn := by kernel_rfl
    rw [this]
    exact sh sv0_eq
  have z0 : D [e5] 0 4 = zeroD := D_zero 0 4 (fun j hj => atK_e5 (by omega))
  have z1 : D [e5] 1 6 = zeroD := D_zero 1 6 (fun j hj => atK_e5 (by omega))
  have z2 : D [e5] 2 0 = zeroD := D_zero 2 0 (fun j hj => atK_e5 (by omega))
  have z3 : D [e5] 3 8 = zeroD := D_zero 3 8 (fun j hj => atK_e5 (by omega))
  have z4 : D [e5] 4 16 = zeroD := D_zero 4 16 (fun j hj => atK_e5 (by omega))
  have z5 : D [e5] 5 32 = zeroD := D_zero 5 32 (fun j hj => atK_e5 (by omega))
  have d1 : D [e5] 1 4 = sv1 := by
    show joinD (D [e5] 0 4) (D [e5] 0 5) = _
    rw [z0, d0]; unfold joinD; rw [if_neg n0]; exact sh sv1_eq
  have d2 : D [e5] 2 4 = sv2 := by
    show joinD (D [e5] 1 4) (D [e5] 1 6) = _
    rw [z1, d1]; unfold joinD; rw [if_neg n1]; exact sh sv2_eq
  have d3 : D [e5] 3 0 = sv3 := by
    show joinD (D [e5] 2 0) (D [e5] 2 4) = _
    rw [z2, d2]; unfold joinD; rw [if_neg n2]; exact sh sv3_eq
  have d4 : D [e5] 4 0 = sv4 := by
    show joinD (D [e5] 3 0) (D [e5] 3 8) = _
    rw [z3, d3]; unfold joinD; rw [if_neg n3]; exact sh sv4_eq
  have d5 : D [e5] 5 0 = sv5 := by
    show joinD (D [e5] 4 0) (D [e5] 4 16) = _
    rw [z4, d4]; unfold joinD; rw [if_neg n4]; exact sh sv5_eq
  show joinD (D [e5] 5 0) (D [e5] 5 32) = _
  rw [z5, d5]; unfold joinD; rw [if_neg n5]; exact sh sv6_eq

theorem ex_root1 : f13 [e5] = some (sv6, 0, ()) := by
  rw [f13_eq e5_valid, root_e5]

/-! ### What sane() asks, as tables -/
def tab {A B : Type} [DecidableEq A] : List (A × B) → A → Option B
  | [], _ => none
  | (a, b) :: l, x => bif decide (x = a) then some b else tab l x

theorem tab_sound {A B : Type} [DecidableEq A] {f : A → Option B} : ∀ {l : List (A × B)}, (∀ p ∈ l, f p.1 = some p.2) → ∀ {x : A} {y : B}, tab l x = some y → f x = some y
  | [], _, _, _, h => nomatch h
  | (a, b) :: l, hl, x, y, h => by
    simp only [tab] at h
    by_cases hx : x = a
    · rw [dec_t hx, cond_true] at h
      rw [hx, ← h]
      exact hl (a, b) (by simp)
    · rw [dec_f hx, cond_false] at h
      exact tab_sound (fun p hp => hl p (by simp [hp])) h

def o13 (l : List Ent) : Option (ByteArray × Int × Unit) := tab [([], (zeroD, 0, ())), ([e5], (sv6, 0, ())), ([(64, sa, ())], (emp, 40, ()))] l
theorem o13_ok {l : List Ent} {y} (h : o13 l = some y) : f13 l = some y := tab_sound (f := f13) (by
  intro p hp
  simp only [List.mem_cons, List.not_mem_nil, or_false] at hp
  rcases hp with rfl | rfl | rfl
  · exact ex_root0
  · exact ex_root1
  · exact ex_rootBad) h
abbrev Op := List Int × List ByteArray × List ByteArray × Unit
def o18 (l : List Ent) (k : List Int) : Option (Op × Int × Unit) := tab [(([], [5]), (([5], [emp], zs 6, ()), (0 : Int), ())), (([], []), (([], [], zs 1, ()), (0 : Int), ())), (([e5], [5]), (([5], [sa], zs 6, ()), (0 : Int), ()))] (l, k)
theorem o18_ok {l : List Ent} {k : List Int} {y} (h : o18 l k = some y) : f18 l k = some y := tab_sound (f := fun x : List Ent × List Int => f18 x.1 x.2) (by
  intro p hp
  simp only [List.mem_cons, List.not_mem_nil, or_false] at hp
  rcases hp with rfl | rfl | rfl
  · exact ex_prove0
  · exact ex_proveAll
  · exact ex_prove1) h
def o23 (r : ByteArray) (o : Op) : Option (List Ent × List Int × Bool × Unit) := tab [((zeroD, ([5], [emp], zs 6, ())), ([], [5], true, ())), ((sv6, ([5], [sa], zs 6, ())), ([e5], [], true, ())), ((sv6, ([5], [emp], zs 6, ())), ([], [], false, ()))] (r, o)
theorem o23_ok {r : ByteArray} {o : Op} {y} (h : o23 r o = some y) : f23 r o = some y := tab_sound (f := fun x : ByteArray × Op => f23 x.1 x.2) (by
  intro p hp
  simp only [List.mem_cons, List.not_mem_nil, or_false] at hp
  rcases hp with rfl | rfl | rfl
  · exact ex_read0
  · exact ex_read1
  · exact ex_readNo) h
def o27 (r : ByteArray) (o : Op) (c : List Ent) : Option (ByteArray × Bool × Unit) := bif decide (c = [e5]) then tab [((zeroD, ([5], [emp], zs 6, ())), (sv6, true, ()))] (r, o) else none
theorem o27_ok {r : ByteArray} {o : Op} {c : List Ent} {y} (h : o27 r o c = some y) : f27 r o c = some y := by
  unfold o27 at h
  by_cases hc : c = [e5]
  · rw [dec_t hc, cond_true] at h
    subst hc
    exact tab_sound (f := fun x : ByteArray × Op => f27 x.1 x.2 [e5]) (by
      intro p hp
      simp only [List.mem_cons, List.not_mem_nil, or_false] at hp
      subst hp
      exact ex_update) h
  · rw [dec_f hc] at h
    cases h
def o35 (s : ByteArray) : Option (ByteArray × Unit) := tab [(exIn, (sv0, ())), (joinS zeroD sv0, (sv1, ())), (joinS sv1 zeroD, (sv2, ())), (joinS zeroD sv2, (sv3, ())), (joinS sv3 zeroD, (sv4, ())), (joinS sv4 zeroD, (sv5, ())), (joinS sv5 zeroD, (sv6, ()))] s
theorem o35_ok {s : ByteArray} {y} (h : o35 s = some y) : f35 s = some y := tab_sound (f := f35) (by
  intro p hp
  simp only [List.mem_cons, List.not_mem_nil, or_false] at hp
  rcases hp with rfl | rfl | rfl | rfl | rfl | rfl | rfl
  · exact sv0_eq
  · exact sv1_eq
  · exact sv2_eq
  · exact sv3_eq
  · exact sv4_eq
  · exact sv5_eq
  · exact sv6_eq) h

end Go.V.G
