/- The tree of digests: what the program computes, and the reference. -/
import Derived.Test.YtccdkoimpoockaaDoorPSha
set_option linter.all false
set_option linter.unusedVariables false
set_option linter.unusedSectionVars false
set_option linter.unusedSimpArgs false
namespace Go.V.G

abbrev Ent := Int × (ByteArray × Unit)

theorem ofBytes_size (r : List Int) : (ofBytes r).size = r.length := by
  unfold ofBytes
  show (List.toArray _).size = _
  rw [List.size_toArray, List.length_map]

def sha (s : ByteArray) : ByteArray :=
  match f35 s with
  | some y => y.1
  | none => ⟨#[]⟩

theorem sha_spec (s : ByteArray) (hs : s.size ≤ 1000000) : f35 s = some (sha s, ()) ∧ f53 s = some (sha s, ()) ∧ (sha s).size = 32 := by
  obtain ⟨r, h1, h2, h3⟩ := sha_eq s hs
  have e : sha s = ofBytes r := by unfold sha; rw [h2]
  rw [e]
  exact ⟨h2, h3, by rw [ofBytes_size, h1]⟩

def zeroD : ByteArray := ofBytes (List.replicate 32 0)
theorem zero_eq : f65 = some (zeroD, ()) ∧ f34 = some (zeroD, ()) := by constructor <;> kernel_rfl
theorem zero_size : zeroD.size = 32 := by kernel_rfl

def emp : ByteArray := ⟨#[]⟩

/-- A map. -/
structure Valid (l : List Ent) : Prop where
  key : ∀ e ∈ l, 0 ≤ e.1 ∧ e.1 < 64
  val : ∀ e ∈ l, e.2.1.size ≠ 0 ∧ e.2.1.size ≤ 65536
  asc : l.Pairwise (fun a b => a.1 < b.1)

theorem asc_len : ∀ (l : List Ent) (lo : Int), (∀ e ∈ l, lo ≤ e.1 ∧ e.1 < 64) → l.Pairwise (fun a b => a.1 < b.1) → lo ≤ 64 → (l.length : Int) ≤ 64 - lo
  | [], lo, _, _, h => by simp; omega
  | e :: l, lo, hk, ha, hlo => by
    have h0 := hk e (by simp)
    rw [List.pairwise_cons] at ha
    have := asc_len l (e.1 + 1) (fun x hx => ⟨by have := ha.1 x hx; omega, (hk x (by simp [hx])).2⟩) ha.2 (by omega)
    simp only [List.length_cons]
    omega

theorem Valid.len {l : List Ent} (h : Valid l) : l.length ≤ 64 := by
  have := asc_len l 0 h.key h.asc (by omega)
  omega

/-- The value of a map at a key. -/
def atK : List Ent → Int → ByteArray
  | [], _ => emp
  | e :: l, k => if e.1 = k then e.2.1 else atK l k

theorem at_get {T : Ty} {l : List T.den} {n : Nat} {x : T.den} (h : l[n]? = some x) : at_ T l (n : Int) = x := by
  unfold at_
  rw [Int.toNat_natCast, List.getD_eq_getElem?_getD, h]
  rfl

abbrev TE : Ty := .pair (.int .i64) (.pair .str .unit)

theorem at_eq (l : List Ent) (k : Int) (hl : l.length ≤ 1000000) : ∀ (rest : List Ent) (n m : Nat), l.drop n = rest → n ≤ l.length → rest.length < m →
    (∃ v, f29_l2 l k m n = some (.inr ((v, ()), (), ())) ∧ atK rest k = v) ∨ (f29_l2 l k m n = some (.inl ((), (), ())) ∧ atK rest k = emp)
  | [], n, 0, _, _, hm => by simp at hm
  | [], n, m + 1, hd, hn, _ => by
    have : l.length ≤ n := List.drop_eq_nil_iff.1 hd
    right
    rw [f29_l2, dec_f (by omega)]
    exact ⟨rfl, rfl⟩
  | e :: rest, n, 0, _, _, hm => by simp at hm
  | e :: rest, n, m + 1, hd, hn, hm => by
    have hlt : n < l.length := by
      have := congrArg List.length hd
      rw [List.length_drop, List.length_cons] at this
      omega
    have hg : l[n]? = some e := by
      have := congrArg (fun x => x[0]?) hd
      simpa using this
    have he : at_ TE l (n : Int) = e := at_get (T := TE) hg
    have e4 : IntKind.wrap .i64 ((n : Int) + 1) = ((n + 1 : Nat) : Int) := by rw [wrapS (by omega) (by omega)]; rfl
    have hi : inR (n : Int) l.length = true := inR_of (by omega) (by omega)
    have hd' : l.drop (n + 1) = rest := by rw [← List.drop_drop, hd]; rfl
    by_cases hk : e.1 = k
    · left
      refine ⟨e.2.1, ?_, by simp [atK, hk]⟩
      rw [f29_l2]
      simp only [dec_t (show (n : Int) < l.length by omega), cond_true, hi, he, dec_t hk]
    · have := at_eq l k hl rest (n + 1) m hd' hlt (by simp at hm; omega)
      have ea : atK (e :: rest) k = atK rest k := by simp [atK, hk]
      rw [ea]
      have eb : f29_l2 l k (m + 1) n = f29_l2 l k m ((n + 1 : Nat) : Int) := by
        rw [f29_l2]
        simp only [dec_t (show (n : Int) < l.length by omega), cond_true, hi, he, dec_f hk, cond_false, e4]
      rw [eb]
      exact this

theorem f29_eq (l : List Ent) (k : Int) (hl : l.length ≤ 1000000) : f29 l k = some (atK l k, ()) := by
  have e : ((l.length : Int) - 0).toNat + 1 = l.length + 1 := by omega
  unfold f29
  rw [e]
  rcases at_eq l k hl l 0 (l.length + 1) rfl (by omega) (by omega) with ⟨v, h1, h2⟩ | ⟨h1, h2⟩
  · refine bindE h1 ?_
    rw [h2]
    rfl
  · refine bindE h1 ?_
    rw [h2]
    rfl

/-- The encoding of a key. -/
def kb (k : Int) : ByteArray := ofBytes [2 * k]

theorem key_enc : ∀ n : Nat, n < 64 → f84 n = some (kb n, 0, ()) ∧ f85 n = some (kb n, 0, ()) := by
  have h : (List.range 64).all (fun n => (match f84 n with | some (s, e, _) => decide (s = kb n) && decide (e = 0) | none => false) && (match f85 n with | some (s, e, _) => decide (s = kb n) && decide (e = 0) | none => false)) = true := by kernel_rfl
  intro n hn
  have := List.all_eq_true.1 h n (List.mem_range.2 hn)
  simp only [Bool.and_eq_true] at this
  constructor
  · have h1 := this.1
    split at h1
    · rename_i s e u heq
      simp only [Bool.and_eq_true, decide_eq_true_eq] at h1
      rw [heq, h1.1, h1.2]
    · cases h1
  · have h1 := this.2
    split at h1
    · rename_i s e u heq
      simp only [Bool.and_eq_true, decide_eq_true_eq] at h1
      rw [heq, h1.1, h1.2]
    · cases h1

def leafS (k : Int) (v : ByteArray) : ByteArray := ((⟨#[8]⟩ : ByteArray) ++ kb k) ++ v
def leafD (k : Int) (v : ByteArray) : ByteArray := if v = emp then zeroD else sha (leafS k v)
def joinS (a b : ByteArray) : ByteArray := ((⟨#[9]⟩ : ByteArray) ++ a) ++ b
def joinD (a b : ByteArray) : ByteArray := if a = zeroD ∧ b = zeroD then zeroD else sha (joinS a b)

theorem kb_size (k : Int) : (kb k).size = 1 := by unfold kb; rw [ofBytes_size]; rfl
theorem leafS_size (k : Int) (v : ByteArray) : (leafS k v).size = v.size + 2 := by
  unfold leafS
  rw [ByteArray.size_append, ByteArray.size_append, kb_size]
  show 1 + 1 + v.size = _
  omega
theorem joinS_size (a b : ByteArray) : (joinS a b).size = a.size + b.size + 1 := by
  unfold joinS
  rw [ByteArray.size_append, ByteArray.size_append]
  show 1 + a.size + b.size = _
  omega
theorem catOk_of {x y : ByteArray} (h : x.size + y.size ≤ 2000000) : catOk x y = true := by
  unfold catOk
  exact decide_eq_true (by omega)

theorem f66_eq (k : Nat) (hk : k < 64) (v : ByteArray) (hv : v.size ≤ 65536) : f66 k v = some (leafD k v, ()) := by
  unfold f66 leafD
  by_cases he : v = emp
  · rw [if_pos he]
    have : decide (v = (⟨#[]⟩ : ByteArray)) = true := decide_eq_true he
    rw [this, cond_true]
    exact bindE zero_eq.1 rfl
  · rw [if_neg he]
    have : decide (v = (⟨#[]⟩ : ByteArray)) = false := decide_eq_false he
    rw [this, cond_false]
    refine bindE (key_enc k hk).1 ?_
    show (bif catOk (⟨#[8]⟩ : ByteArray) (kb k) then (bif catOk ((⟨#[8]⟩ : ByteArray) ++ kb k) v then _ else none) else none) = _
    rw [catOk_of (by rw [kb_size]; decide), catOk_of (by rw [ByteArray.size_append, kb_size]; show 1 + 1 + v.size ≤ _; omega), cond_true, cond_true]
    exact bindE (sha_spec (leafS k v) (by rw [leafS_size]; omega)).1 rfl

theorem f67_eq (a b : ByteArray) (ha : a.size ≤ 100) (hb : b.size ≤ 100) : f67 a b = some (joinD a b, ()) := by
  have c1 : catOk (⟨#[9]⟩ : ByteArray) a = true := catOk_of (by show 1 + a.size ≤ _; omega)
  have c2 : catOk ((⟨#[9]⟩ : ByteArray) ++ a) b = true := catOk_of (by rw [ByteArray.size_append]; show 1 + a.size + b.size ≤ _; omega)
  have hs := (sha_spec (joinS a b) (by rw [joinS_size]; omega)).1
  unfold f67 joinD
  refine bindE zero_eq.1 ?_
  show (bif decide (a = zeroD) then _ else _) = _
  by_cases h1 : a = zeroD
  · rw [dec_t h1, cond_true]
    refine bindE zero_eq.1 ?_
    show (bif decide (b = zeroD) then _ else _) = _
    by_cases h2 : b = zeroD
    · rw [dec_t h2, cond_true, if_pos ⟨h1, h2⟩]
      exact bindE zero_eq.1 rfl
    · rw [dec_f h2, cond_false, if_neg (fun h => h2 h.2), c1, c2, cond_true, cond_true]
      exact bindE hs rfl
  · rw [dec_f h1, cond_false, if_neg (fun h => h1 h.1), c1, c2, cond_true, cond_true]
    exact bindE hs rfl

theorem leafD_size (k : Int) (v : ByteArray) (hv : v.size ≤ 65536) : (leafD k v).size = 32 := by
  unfold leafD
  split
  · exact zero_size
  · exact (sha_spec _ (by rw [leafS_size]; omega)).2.2
theorem joinD_size (a b : ByteArray) (ha : a.size ≤ 100) (hb : b.size ≤ 100) : (joinD a b).size = 32 := by
  unfold joinD
  split
  · exact zero_size
  · exact (sha_spec _ (by rw [joinS_size]; omega)).2.2

/-- The digest of a part of a map: of height h, from a key on. -/
def D (l : List Ent) : Nat → Int → ByteArray
  | 0, low => leafD low (atK l low)
  | h + 1, low => joinD (D l h low) (D l h (low + 2 ^ h))

theorem atK_size {l : List Ent} (hv : ∀ e ∈ l, e.2.1.size ≤ 65536) (k : Int) : (atK l k).size ≤ 65536 := by
  induction l with
  | nil => show (0 : Nat) ≤ _; omega
  | cons e l ih =>
    unfold atK
    split
    · exact hv e (by simp)
    · exact ih (fun x hx => hv x (by simp [hx]))

theorem D_size {l : List Ent} (hv : ∀ e ∈ l, e.2.1.size ≤ 65536) : ∀ (h : Nat) (low : Int), (D l h low).size = 32
  | 0, low => leafD_size _ _ (atK_size hv low)
  | h + 1, low => joinD_size _ _ (by rw [D_size hv h low]; omega) (by rw [D_size hv h _]; omega)

/-- The strings that are hashed for a part. -/
def Hs (l : List Ent) : Nat → Int → List ByteArray → List ByteArray
  | 0, low, acc => if atK l low = emp then acc else acc ++ [leafS low (atK l low)]
  | h + 1, low, acc =>
    if D l h low = zeroD ∧ D l h (low + 2 ^ h) = zeroD then Hs l h (low + 2 ^ h) (Hs l h low acc)
    else Hs l h (low + 2 ^ h) (Hs l h low acc) ++ [joinS (D l h low) (D l h (low + 2 ^ h))]

theorem Hs_len (l : List Ent) : ∀ (h : Nat) (low : Int) (acc : List ByteArray), (Hs l h low acc).length + 1 ≤ acc.length + 2 ^ (h + 1)
  | 0, low, acc => by unfold Hs; split <;> simp
  | h + 1, low, acc => by
    have h1 := Hs_len l h low acc
    have h2 := Hs_len l h (low + 2 ^ h) (Hs l h low acc)
    have e : 2 ^ (h + 1 + 1) = 2 ^ (h + 1) + 2 ^ (h + 1) := by omega
    unfold Hs
    split
    · omega
    · rw [List.length_append, List.length_singleton]; omega

theorem f38_eq {l : List Ent} (hv : ∀ e ∈ l, e.2.1.size ≤ 65536) (hl : l.length ≤ 1000000) : ∀ (h : Nat) (fuel : Nat) (low : Nat) (acc : List ByteArray), h < fuel → h ≤ 6 → low + 2 ^ h ≤ 64 → acc.length + 2 ^ (h + 1) ≤ 100000 →
    f38 fuel l low ((2 ^ h : Nat) : Int) acc = some ((D l h low, ()), (Hs l h low acc, ()))
  | h, 0, _, _, hf, _, _, _ => by omega
  | 0, fuel + 1, low, acc, _, _, hlow, hacc => by
    rw [f38]
    have e1 : decide (((2 ^ 0 : Nat) : Int) = 1) = true := rfl
    rw [e1, cond_true]
    refine bindE (f29_eq l low hl) ?_
    show (bif decide (atK l low = emp) then _ else _) = _
    by_cases he : atK l low = emp
    · rw [dec_t he, cond_true]
      refine bindE zero_eq.2 ?_
      simp only [D, Hs, leafD, if_pos he]
    · rw [dec_f he, cond_false]
      have e68 : f68 low (atK l low) = some (leafS low (atK l low), ()) := by
        unfold f68
        refine bindE (key_enc low (by omega)).2 ?_
        show (bif decide ((0 : Int) ≠ 0) then _ else (bif catOk (⟨#[8]⟩ : ByteArray) (kb low) then (bif catOk ((⟨#[8]⟩ : ByteArray) ++ kb low) (atK l low) then _ else none) else none)) = _
        have hz := atK_size hv (low : Int)
        rw [catOk_of (by rw [kb_size]; decide), catOk_of (by rw [ByteArray.size_append, kb_size]; show 1 + 1 + (atK l low).size ≤ _; omega)]
        rfl
      refine bindE e68 ?_
      refine bindE (sha_spec (leafS low (atK l low)) (by rw [leafS_size]; have := atK_size hv (low : Int); omega)).2.1 ?_
      show (bif decide (acc.length + 1 ≤ appLim) then _ else none) = _
      rw [dec_t (by unfold appLim; omega), cond_true]
      simp only [D, Hs, leafD, if_neg he]
  | h + 1, fuel + 1, low, acc, hf, h6, hlow, hacc => by
    have hp : 2 ^ (h + 1) = 2 ^ h + 2 ^ h := by omega
    have hp2 : 2 ^ (h + 1 + 1) = 2 ^ (h + 1) + 2 ^ (h + 1) := by omega
    have hpos : 0 < 2 ^ h := Nat.two_pow_pos h
    have hlen1 := Hs_len l h low acc
    have hlen2 := Hs_len l h (low + 2 ^ h : Int) (Hs l h low acc)
    have hdiv : Int.tdiv ((2 ^ (h + 1) : Nat) : Int) 2 = ((2 ^ h : Nat) : Int) := by
      have : ((2 ^ (h + 1) : Nat) : Int) = ((2 ^ h : Nat) : Int) * 2 := by rw [hp]; omega
      rw [this, Int.mul_tdiv_cancel _ (by omega)]
    have ew : IntKind.wrap .i64 ((2 ^ h : Nat) : Int) = ((2 ^ h : Nat) : Int) := wrapS (by omega) (by omega)
    have el : IntKind.wrap .i64 ((low : Int) + ((2 ^ h : Nat) : Int)) = ((low + 2 ^ h : Nat) : Int) := by rw [wrapS (by omega) (by omega)]; omega
    have ecast : ((low + 2 ^ h : Nat) : Int) = (low : Int) + 2 ^ h := by push_cast; rfl
    have ih1 := f38_eq hv hl h fuel low acc (by omega) (by omega) (by omega) (by omega)
    have ih2 := f38_eq hv hl h fuel (low + 2 ^ h) (Hs l h low acc) (by omega) (by omega) (by omega) (by omega)
    rw [ecast] at ih2
    rw [f38]
    have e1 : decide (((2 ^ (h + 1) : Nat) : Int) = 1) = false := decide_eq_false (by omega)
    rw [e1, cond_false]
    simp only [hdiv, ew, el, ecast]
    refine bindE ih1 ?_
    refine bindE ih2 ?_
    have s1 := D_size hv h low
    have s2 := D_size hv h ((low : Int) + 2 ^ h)
    have c1 : catOk (⟨#[9]⟩ : ByteArray) (D l h low) = true := catOk_of (by show 1 + _ ≤ _; omega)
    have c2 : catOk ((⟨#[9]⟩ : ByteArray) ++ D l h low) (D l h ((low : Int) + 2 ^ h)) = true := catOk_of (by rw [ByteArray.size_append]; show 1 + _ + _ ≤ _; omega)
    have hsh := (sha_spec (joinS (D l h low) (D l h ((low : Int) + 2 ^ h))) (by rw [joinS_size]; omega)).2.1
    have hlim : (Hs l h ((low : Int) + 2 ^ h) (Hs l h low acc)).length + 1 ≤ appLim := by unfold appLim; omega
    refine bindE zero_eq.2 ?_
    show (bif decide (D l h low = zeroD) then _ else _) = _
    by_cases h1 : D l h low = zeroD
    · rw [dec_t h1, cond_true]
      refine bindE zero_eq.2 ?_
      show (bif decide (D l h ((low : Int) + 2 ^ h) = zeroD) then _ else _) = _
      by_cases h2 : D l h ((low : Int) + 2 ^ h) = zeroD
      · rw [dec_t h2, cond_true]
        refine bindE zero_eq.2 ?_
        simp only [D, Hs, joinD, if_pos (And.intro h1 h2)]
      · rw [dec_f h2, cond_false, c1, c2, cond_true, cond_true]
        refine bindE hsh ?_
        show (bif decide ((Hs l h ((low : Int) + 2 ^ h) (Hs l h low acc)).length + 1 ≤ appLim) then _ else none) = _
        rw [dec_t hlim, cond_true]
        simp only [D, Hs, joinD, if_neg (fun h : D l _ low = zeroD ∧ D l _ _ = zeroD => h2 h.2)]
        rfl
    · rw [dec_f h1, cond_false, c1, c2, cond_true, cond_true]
      refine bindE hsh ?_
      show (bif decide ((Hs l h ((low : Int) + 2 ^ h) (Hs l h low acc)).length + 1 ≤ appLim) then _ else none) = _
      rw [dec_t hlim, cond_true]
      simp only [D, Hs, joinD, if_neg (fun h : D l _ low = zeroD ∧ D l _ _ = zeroD => h1 h.1)]
      rfl

end Go.V.G
