/- From the data that a law is given to typed values; what it must leave. -/
import Derived.Test.YtccdkoimpoockaaDoorVE
import Derived.ChangeArms
import Derived.OpenShut
import Derived.ChangeStays
import Derived.ReadAgain
import Derived.ChangeSame
import Derived.ChangeVars
import Derived.JoinedOf
import Derived.RowKit
import Derived.LaidLaws
import Derived.Handed
import Derived.Stop.Joined
set_option linter.all false
set_option linter.unusedVariables false
set_option linter.unusedSectionVars false
set_option linter.unusedSimpArgs false
namespace Go.V
variable [Codes]

/-- What a typed value of the machine keeps to. -/
def Ty.ok : (T : Ty) → T.den → Prop
  | .int k, x => k.min ≤ x ∧ x ≤ k.max
  | .bool, _ => True
  | .str, s => s.size ≤ maxLen
  | .sl e, l => l.length ≤ maxLen ∧ ∀ x ∈ l, e.ok x
  | .unit, _ => True
  | .pair a b, x => a.ok x.1 ∧ b.ok x.2
  | .arr n e, l => l.length = n ∧ ∀ x ∈ l, e.ok x

def tysOk : (l : List Ty) → tysDen l → Prop
  | [], _ => True
  | T :: l, x => T.ok x.1 ∧ tysOk l x.2

def Ty.noSl : Ty → Bool
  | .sl _ => false
  | .pair a b => a.noSl && b.noSl
  | .arr _ e => e.noSl
  | _ => true

/-- Does a type of the program have this shape? -/
def fit (C : Cfg) : Ty → UT → Nat → Bool
  | .int k, .int j, _ => decide (k = j)
  | .bool, .bool, _ => true
  | .str, .str, _ => true
  | .sl S, .sl e, _ => fit C S (C.under e) 0 && S.noSl && Nat.beq (C.size e) S.size && !Nat.beq S.size 0
  | .arr n S, .arr m e, _ => Nat.beq n m && fit C S (C.under e) 0 && Nat.beq (C.size e) S.size && !Nat.beq S.size 0
  | .unit, .st [], _ => true
  | .pair A B, .st ((o, t) :: fs), off => Nat.beq o off && fit C A (C.under t) 0 && Nat.beq (C.size t) A.size && !Nat.beq A.size 0 && fit C B (.st fs) (off + A.size)
  | _, _, _ => false

section
variable {C : Cfg} {P : Program} {H : Type} {enc : TypeId × Value → H} {w : World} {held : Bool} {sp : Nat → Bool}

theorem cellsOf_eq (hC : CfgOK C P) {t n : Nat} (h : C.size t = n) (hn : n ≠ 0) : P.cellsOf t = n := by
  obtain ⟨i, h1, h2, _⟩ := hC.size t (by rw [h]; exact hn)
  unfold Program.cellsOf
  rw [h1]
  simp only [Option.map_some, Option.getD_some]
  rw [h2, h]

/-- Empty slices are laid as slices are. -/
def spotOk (cs : List Value) : Prop := ∀ v ∈ cs, ∀ a c, v = .slice (some a) 0 c → a.spot = none

theorem spotOk.sub {cs ds : List Value} (h : spotOk cs) (hs : ∀ v ∈ ds, v ∈ cs) : spotOk ds := fun v hv => h v (hs v hv)

theorem mapM_range {α : Type} {f : Nat → Option α} {l : List α} : ∀ {n : Nat}, (List.range n).mapM f = some l → l.length = n ∧ ∀ i, i < n → f i = l[i]? := by
  intro n h
  have key : ∀ (xs : List Nat) (l : List α), xs.mapM f = some l → l.length = xs.length ∧ ∀ i, i < xs.length → (xs[i]?).bind f = l[i]? := by
    intro xs
    induction xs with
    | nil => intro l h; simp at h; subst h; exact ⟨rfl, fun i hi => absurd hi (by simp)⟩
    | cons x xs ih =>
      intro l h
      rw [List.mapM_cons] at h
      cases hx : f x with
      | none => simp [hx] at h
      | some y =>
        cases hr : xs.mapM f with
        | none => simp [hx, hr] at h
        | some ys =>
          simp [hx, hr] at h
          subst h
          obtain ⟨h1, h2⟩ := ih ys hr
          refine ⟨by simp [h1], fun i hi => ?_⟩
          cases i with
          | zero => simp [hx]
          | succ i => simpa using h2 i (by simpa using hi)
  obtain ⟨h1, h2⟩ := key _ _ h
  rw [List.length_range] at h1
  refine ⟨h1, fun i hi => ?_⟩
  have := h2 i (by simpa using hi)
  rwa [List.getElem?_range hi] at this

/-- Elements one behind the other. -/
theorem elems_of {α : Type} {R : α → List Value → Prop} {ok : α → Prop} {sz : Nat} : ∀ (n : Nat) (cs : List Value), cs.length = n * sz → (∀ i, i < n → ∃ x, R x ((cs.drop (i * sz)).take sz) ∧ ok x) →
    ∃ l : List α, l.length = n ∧ Elems R l cs ∧ ∀ x ∈ l, ok x
  | 0, cs, hl, _ => ⟨[], rfl, List.eq_nil_of_length_eq_zero (by simpa using hl), fun _ h => nomatch h⟩
  | n + 1, cs, hl, h => by
    obtain ⟨x, h1, h2⟩ := h 0 (by omega)
    obtain ⟨l, k1, k2, k3⟩ := elems_of (R := R) (ok := ok) (sz := sz) n (cs.drop sz) (by rw [List.length_drop, hl, Nat.succ_mul]; omega) (fun i hi => by
      obtain ⟨y, q1, q2⟩ := h (i + 1) (by omega)
      refine ⟨y, ?_, q2⟩
      rw [List.drop_drop]
      have : sz + i * sz = (i + 1) * sz := by rw [Nat.succ_mul]; omega
      rw [this]
      exact q1)
    refine ⟨x :: l, by simp [k1], ⟨cs.take sz, cs.drop sz, (List.take_append_drop _ _).symm, by simpa using h1, k2⟩, fun y hy => ?_⟩
    rcases List.mem_cons.1 hy with rfl | hy
    · exact h2
    · exact k3 y hy

/-- The cells of memory, all of them. -/
def allFz (w : World) : Nat → Nat → Option Value := fun b o => w.cell? ⟨b, o, none⟩

theorem cells_at {a : Addr} {n : Nat} {cs : List Value} (h : w.cells? 0 a n = some cs) : cs.length = n ∧ ∀ j, j < n → w.cell? (a.add j) = cs[j]? := by
  unfold World.cells? at h
  rw [if_pos (Nat.zero_le _)] at h
  exact mapM_range h

theorem spot_of_cell {a : Addr} {v : Value} (h : w.cell? a = some v) : a.spot = none := by
  unfold World.cell? at h
  split at h
  · split at h
    · cases h
    · rename_i hs; cases hsp : a.spot with
      | none => rfl
      | some _ => rw [hsp] at hs; simp at hs
  · cases h

mutual
theorem fit_cr (hC : CfgOK C P) : ∀ (T : Ty) (t : TypeId) (fuel : Nat) (cs : List Value) (x : DataW H × List MemPlace), fit C T (C.under t) 0 = true → (T.size = 0 → cs = []) → (T.size ≠ 0 → C.size t = T.size) → (T.noSl = true ∨ spotOk cs) →
    DataW.trod enc P w 0 sp held fuel t cs = some x → ∃ y, CR (allFz w) T y cs ∧ T.ok y
  | .int k, t, fuel, cs, x, hf, _, _, _, h => by
    cases hu : C.under t <;> rw [hu] at hf <;> simp only [fit, decide_eq_true_eq, Bool.false_eq_true] at hf
    subst hf
    obtain ⟨n, rfl, rfl, hw⟩ := DataW.trod_int (hC.int _ _ hu) h
    simp only [Lit.wf, Bool.and_eq_true, decide_eq_true_eq] at hw
    exact ⟨n, rfl, hw⟩
  | .bool, t, fuel, cs, x, hf, _, _, _, h => by
    cases hu : C.under t <;> rw [hu] at hf <;> simp only [fit, Bool.false_eq_true] at hf
    obtain ⟨n, rfl, rfl⟩ := DataW.trod_bool (hC.bool _ hu) h
    exact ⟨n, rfl, trivial⟩
  | .str, t, fuel, cs, x, hf, _, _, _, h => by
    cases hu : C.under t <;> rw [hu] at hf <;> simp only [fit, Bool.false_eq_true] at hf
    obtain ⟨n, rfl, rfl, hw⟩ := DataW.trod_string (hC.str _ hu) h
    exact ⟨n, rfl, hw⟩
  | .sl S, t, fuel, cs, x, hf, _, _, hs, h => by
    cases hu : C.under t <;> rw [hu] at hf <;> simp only [fit, Bool.and_eq_true, Bool.not_eq_true', Bool.false_eq_true] at hf
    rename_i e
    obtain ⟨⟨⟨f1, f2⟩, f3⟩, f4⟩ := hf
    have hsz : S.size ≠ 0 := fun e => by rw [e] at f4; cases f4
    have hce := Nat.eq_of_beq_eq_true f3
    have hcells := cellsOf_eq hC hce hsz
    rcases DataW.trod_slice (hC.sl _ _ hu) h with ⟨rfl, _⟩ | ⟨a, len, cap, elems, rest, n, rfl, rfl, _, _, hlc, hcm, hel, he, _, _⟩
    · exact ⟨[], ⟨_, rfl, .inl ⟨rfl, rfl⟩⟩, Nat.zero_le _, fun _ h => nomatch h⟩
    · rw [hcells] at he
      -- the cells of one element
      have one : ∀ i, i < len → ∃ cs, w.cells? 0 (a.add (i * S.size)) S.size = some cs ∧ ∃ y, DataW.trod enc P w 0 sp held n e cs = some y := by
        intro i hi
        have := he i hi
        rw [List.getElem?_eq_getElem (by omega)] at this
        obtain ⟨cs, h1, h2⟩ := Option.bind_eq_some_iff.1 this
        exact ⟨cs, h1, _, h2⟩
      have hspot : a.spot = none := by
        cases len with
        | zero =>
          rcases hs with hs | hs
          · simp [Ty.noSl] at hs
          · exact hs _ (by simp) a cap rfl
        | succ len =>
          obtain ⟨cs, h1, _⟩ := one 0 (by omega)
          obtain ⟨h2, h3⟩ := cells_at h1
          have h4 := h3 0 (by omega)
          rw [List.getElem?_eq_getElem (by omega)] at h4
          have := spot_of_cell h4
          simpa [Addr.add] using this
      obtain ⟨blk, off, spot⟩ := a
      simp only at hspot
      subst hspot
      -- all cells
      let all : List Value := (List.range len).flatMap fun i => (w.cells? 0 ((⟨blk, off, none⟩ : Addr).add (i * S.size)) S.size).getD []
      have key : ∀ m, m ≤ len → ∃ l : List S.den, ∃ cs, l.length = m ∧ Elems (CR (allFz w) S) l cs ∧ cs.length = m * S.size ∧ Fz (allFz w) blk off cs ∧ ∀ y ∈ l, S.ok y := by
        intro m
        induction m with
        | zero => exact fun _ => ⟨[], [], rfl, rfl, by simp, fun j v e => by simp at e, fun _ h => nomatch h⟩
        | succ m ih =>
          intro hm
          obtain ⟨l, cs, k1, k2, k3, k4, k5⟩ := ih (by omega)
          obtain ⟨cs1, h1, y1, h2⟩ := one m (by omega)
          obtain ⟨q1, q2⟩ := cells_at h1
          obtain ⟨y, q3, q4⟩ := fit_cr hC S e n cs1 y1 f1 (fun e => absurd e hsz) (fun _ => hce) (.inl f2) h2
          refine ⟨l ++ [y], cs ++ cs1, by simp [k1], ?_, by simp [k3, q1, Nat.succ_mul], ?_, ?_⟩
          · exact Elems.append k2 ⟨cs1, [], by simp, q3, rfl⟩
          · intro j v e
            by_cases hj : j < cs.length
            · rw [List.getElem?_append_left hj] at e; exact k4 j v e
            · rw [List.getElem?_append_right (by omega)] at e
              have hj2 : j - cs.length < S.size := by
                have := (List.getElem?_eq_some_iff.1 e).1
                omega
              have := q2 _ hj2
              rw [e] at this
              show w.cell? ⟨blk, off + j, none⟩ = some v
              rw [← this]
              rw [add_lit', add_lit']
              congr 2
              omega
          · intro z hz
            rcases List.mem_append.1 hz with hz | hz
            · exact k5 z hz
            · simp at hz; subst hz; exact q4
      obtain ⟨l, cs, k1, k2, k3, k4, k5⟩ := key len (Nat.le_refl _)
      refine ⟨l, ⟨_, rfl, .inr ⟨blk, off, cap, cs, by rw [k1], by rw [k1]; exact hlc, k2, k4⟩⟩, ?_, k5⟩
      rw [k1]; omega
  | .arr n S, t, fuel, cs, x, hf, hz0, hsize, hs, h => by
    cases hu : C.under t <;> rw [hu] at hf <;> simp only [fit, Bool.and_eq_true, Bool.not_eq_true', Bool.false_eq_true] at hf
    rename_i m e
    obtain ⟨⟨⟨f0, f1⟩, f3⟩, f4⟩ := hf
    have hnm := Nat.eq_of_beq_eq_true f0
    subst hnm
    have hsz : S.size ≠ 0 := fun e => by rw [e] at f4; cases f4
    have hce := Nat.eq_of_beq_eq_true f3
    have hcells := cellsOf_eq hC hce hsz
    obtain ⟨xs, m, _, rfl, hl, hxs, he⟩ := DataW.trod_array (hC.arr _ _ _ hu) h
    rw [hcells] at he
    have hlen : cs.length = n * S.size := by
      by_cases hz : n * S.size = 0
      · have : n = 0 := by
          rcases Nat.mul_eq_zero.1 hz with h | h
          · exact h
          · exact absurd h hsz
        subst this
        rw [hz0 (by simp [Ty.size])]
        simp
      · rw [hl]
        exact cellsOf_eq hC (hsize (by simpa [Ty.size] using hz)) (by simpa [Ty.size] using hz)
    obtain ⟨l, k1, k2, k3⟩ := elems_of (R := CR (allFz w) S) (ok := S.ok) n cs hlen (fun i hi => by
      have := he i hi
      rw [List.getElem?_eq_getElem (by omega)] at this
      refine fit_cr hC S e m _ _ f1 (fun e => absurd e hsz) (fun _ => hce) ?_ this
      rcases hs with hs | hs
      · exact .inl hs
      · exact .inr (hs.sub fun v hv => List.mem_of_mem_drop (List.mem_of_mem_take hv)))
    exact ⟨l, ⟨k1, k2⟩, k1, k3⟩
  | .unit, t, fuel, cs, x, hf, hz, _, _, h => ⟨(), hz rfl, trivial⟩
  | .pair A B, t, fuel, cs, x, hf, _, hsize, hs, h => by
    cases hu : C.under t <;> rw [hu] at hf <;> try (simp only [fit, Bool.false_eq_true] at hf; done)
    rename_i fs
    obtain ⟨fields, hd, hfs⟩ := hC.st _ _ hu
    obtain ⟨xs, m, _, rfl, hl, hxs, he⟩ := DataW.trod_struct hd h
    have hAB : (Ty.pair A B).size ≠ 0 := by
      cases fs with
      | nil => simp [fit] at hf
      | cons f fs =>
        simp only [fit, Bool.and_eq_true, Bool.not_eq_true'] at hf
        intro e
        simp only [Ty.size] at e
        have : A.size = 0 := by omega
        rw [this] at hf
        exact absurd hf.1.2 (by decide)
    have hlen : cs.length = (Ty.pair A B).size := by
      rw [hl]; exact cellsOf_eq hC (hsize hAB) hAB
    obtain ⟨y, h1, h2⟩ := fit_fs hC (.pair A B) fields.toList 0 m cs xs 0 (by rw [hfs]; exact hf) (by omega) (fun i f hf => by
      have := he i f (by simpa using hf)
      simpa using this) (by rw [hxs]; simp) hs
    exact ⟨y, by simpa using h1, h2⟩
theorem fit_fs (hC : CfgOK C P) : ∀ (T : Ty) (fields : List Field) (off fuel : Nat) (cs : List Value) (xs : List (DataW H × List MemPlace)) (k : Nat), fit C T (.st (fields.map fun f => (f.offset, f.type))) off = true → cs.length = off + T.size →
    (∀ i f, fields[i]? = some f → DataW.trod enc P w 0 sp held fuel f.type ((cs.drop f.offset).take (P.cellsOf f.type)) = xs[k + i]?) → k + fields.length = xs.length → (T.noSl = true ∨ spotOk cs) →
    ∃ y, CR (allFz w) T y (cs.drop off) ∧ T.ok y
  | .unit, fields, off, fuel, cs, xs, k, hf, hl, _, _, _ => by
    refine ⟨(), ?_, trivial⟩
    show cs.drop off = []
    rw [List.drop_eq_nil_iff]
    simp only [Ty.size] at hl
    omega
  | .pair A B, [], off, fuel, cs, xs, k, hf, hl, _, _, _ => by simp [fit] at hf
  | .pair A B, f :: fields, off, fuel, cs, xs, k, hf, hl, he, hk, hs => by
    simp only [List.map_cons, fit, Bool.and_eq_true, Bool.not_eq_true'] at hf
    obtain ⟨⟨⟨⟨f1, f2⟩, f3⟩, f4⟩, f5⟩ := hf
    have hoff := Nat.eq_of_beq_eq_true f1
    have hsz : A.size ≠ 0 := fun e => by rw [e] at f4; cases f4
    have hce := Nat.eq_of_beq_eq_true f3
    have hcells := cellsOf_eq hC hce hsz
    have h0 := he 0 f rfl
    simp only [List.length_cons] at hk
    rw [Nat.add_zero, List.getElem?_eq_getElem (by omega), hoff, hcells] at h0
    simp only [Ty.size] at hl
    obtain ⟨a, h1, h2⟩ := fit_cr hC A f.type fuel _ _ f2 (fun e => absurd e hsz) (fun _ => hce) (by
      rcases hs with hs | hs
      · simp only [Ty.noSl, Bool.and_eq_true] at hs; exact .inl hs.1
      · exact .inr (hs.sub fun v hv => List.mem_of_mem_drop (List.mem_of_mem_take hv))) h0
    obtain ⟨b, h3, h4⟩ := fit_fs hC B fields (off + A.size) fuel cs xs (k + 1) f5 (by omega) (fun i g hg => by
      have := he (i + 1) g (by simpa using hg)
      rw [this]; congr 1; omega) (by omega) (by
      rcases hs with hs | hs
      · simp only [Ty.noSl, Bool.and_eq_true] at hs; exact .inl hs.2
      · exact .inr hs)
    refine ⟨(a, b), ⟨(cs.drop off).take A.size, cs.drop (off + A.size), ?_, h1, h3⟩, h2, h4⟩
    rw [← List.drop_drop, List.take_append_drop]
  | .int _, fields, off, _, _, _, _, hf, _, _, _, _ => by cases fields <;> simp [fit] at hf
  | .bool, fields, off, _, _, _, _, hf, _, _, _, _ => by cases fields <;> simp [fit] at hf
  | .str, fields, off, _, _, _, _, hf, _, _, _, _ => by cases fields <;> simp [fit] at hf
  | .sl _, fields, off, _, _, _, _, hf, _, _, _, _ => by cases fields <;> simp [fit] at hf
  | .arr _ _, fields, off, _, _, _, _, hf, _, _, _, _ => by cases fields <;> simp [fit] at hf
end

/-! ### Arguments -/
def fitAll (C : Cfg) : List TypeId → List Ty → Bool
  | [], [] => true
  | t :: ts, T :: Ts => fit C T (C.under t) 0 && (Nat.beq (C.size t) T.size && !Nat.beq T.size 0) && fitAll C ts Ts
  | _, _ => false

theorem cell_spot {W : World} {r : Reach} {base : Nat} {u : TypeId} {a : Addr} {n c : Nat} (h : Cell.okWide P W r base u (.slice (some a) n c)) : a.spot = none := by
  unfold Cell.okWide at h
  split at h <;> first
    | (rename_i e; cases e; done)
    | skip
  unfold Cell.ok at h
  split at h <;> first
    | (rename_i e; cases e; done)
    | (cases h; done)
    | skip
  all_goals first
    | (rename_i e; simp only [Value.slice.injEq, Option.some.injEq] at e; obtain ⟨rfl, rfl, rfl⟩ := e; exact h.2.2.2.1)
    | exact h.2.2.2.1

theorem fit_agg (hC : CfgOK C P) {T : Ty} {t : TypeId} (hf : fit C T (C.under t) 0 = true) :
    (T.isAgg = true ∧ ((∃ fs, P.underlying t = some (.struct fs)) ∨ ∃ n e, P.underlying t = some (.array n e))) ∨
    (T.isAgg = false ∧ (∀ fs, P.underlying t ≠ some (.struct fs)) ∧ (∀ n e, P.underlying t ≠ some (.array n e))) := by
  cases T <;> cases hu : C.under t <;> rw [hu] at hf <;> try (simp only [fit, Bool.false_eq_true] at hf; done)
  case int.int => exact .inr ⟨rfl, by rw [hC.int _ _ hu]; simp, by rw [hC.int _ _ hu]; simp⟩
  case bool.bool => exact .inr ⟨rfl, by rw [hC.bool _ hu]; simp, by rw [hC.bool _ hu]; simp⟩
  case str.str => exact .inr ⟨rfl, by rw [hC.str _ hu]; simp, by rw [hC.str _ hu]; simp⟩
  case sl.sl => exact .inr ⟨rfl, by rw [hC.sl _ _ hu]; simp, by rw [hC.sl _ _ hu]; simp⟩
  case arr.arr => exact .inl ⟨rfl, .inr ⟨_, _, hC.arr _ _ _ hu⟩⟩
  case unit.st => obtain ⟨f, h, _⟩ := hC.st _ _ hu; exact .inl ⟨rfl, .inl ⟨_, h⟩⟩
  case pair.st => obtain ⟨f, h, _⟩ := hC.st _ _ hu; exact .inl ⟨rfl, .inl ⟨_, h⟩⟩

theorem arg_tv (hC : CfgOK C P) {T : Ty} {t : TypeId} {v : Value} {d : DataW H} {p : List MemPlace} (hf : fit C T (C.under t) 0 = true) (hz : C.size t = T.size) (hn : T.size ≠ 0) {base : Nat}
    (hv : Value.okWide P w .any base t v) (h : DataW.Trod enc P w 0 sp held t v d p) : ∃ x, TV (allFz w) T x v ∧ T.ok x := by
  obtain ⟨fuel, h⟩ := h
  unfold Value.okWide at hv
  rcases fit_agg hC hf with ⟨ha, hu⟩ | ⟨ha, hu1, hu2⟩
  · have hv' : ∃ cs, v = .agg cs ∧ cs.size = P.cellsOf t ∧ Row.okWide P w .any base t cs := by
      rcases hu with ⟨fs, hu⟩ | ⟨n, e, hu⟩ <;> rw [hu] at hv <;> exact hv
    obtain ⟨cs, rfl, _, ts, _, _, hrow⟩ := hv'
    have hs : spotOk cs.toList := by
      intro v hv a c e
      obtain ⟨i, hi, e2⟩ := List.mem_iff_getElem.1 hv
      obtain ⟨u, _, hc⟩ := hrow i v (by rw [← Array.getElem?_toList, List.getElem?_eq_getElem hi, e2])
      rw [e] at hc
      exact cell_spot hc
    obtain ⟨y, h1, h2⟩ := fit_cr hC T t fuel _ _ hf (fun e => absurd e hn) (fun _ => hz) (.inr hs) h
    exact ⟨y, ⟨cs, h1, by rw [ha]; rfl⟩, h2⟩
  · have hv' : Cell.okWide P w .any base t v := by
      cases hu : P.underlying t with
      | none => rw [hu] at hv; exact hv
      | some D =>
        rw [hu] at hv
        cases D <;> first | exact hv | exact absurd hu (hu1 _) | exact absurd hu (hu2 _ _)
    have hcells : v.cells = #[v] := by
      cases v <;> first | rfl | skip
      rename_i cs
      exfalso
      unfold Cell.okWide at hv'
      split at hv' <;> first
        | (rename_i e; cases e; done)
        | skip
      unfold Cell.ok at hv'
      split at hv' <;> first
        | (rename_i e; cases e; done)
        | (cases hv'; done)
        | skip
    rw [hcells] at h
    have hs : spotOk [v] := by
      intro u hu a c e
      simp only [List.mem_singleton] at hu
      subst hu
      rw [e] at hv'
      exact cell_spot hv'
    obtain ⟨y, h1, h2⟩ := fit_cr hC T t fuel _ _ hf (fun e => absurd e hn) (fun _ => hz) (.inr hs) h
    exact ⟨y, ⟨#[v], h1, by rw [ha]; rfl⟩, h2⟩

theorem args_tvs (hC : CfgOK C P) {base : Nat} : ∀ {ts : List TypeId} {Ts : List Ty} {vs : List Value} {ds : List (DataW H)} {p : List MemPlace}, fitAll C ts Ts = true →
    (∀ (j : Nat) t v, ts[j]? = some t → vs[j]? = some v → Value.okWide P w .any base t v) → DataW.TrodAll enc P w 0 sp held ts vs ds p → ∃ x, TVs (allFz w) Ts x vs ∧ tysOk Ts x
  | [], [], [], [], p, _, _, _ => ⟨(), rfl, trivial⟩
  | t :: ts, T :: Ts, v :: vs, d :: ds, p, hf, hv, ⟨p1, p2, h1, h2, _⟩ => by
    simp only [fitAll, Bool.and_eq_true, Bool.not_eq_true'] at hf
    have hn : T.size ≠ 0 := fun e => by have := hf.1.2.2; rw [e] at this; cases this
    obtain ⟨x, k1, k2⟩ := arg_tv hC hf.1.1 (Nat.eq_of_beq_eq_true hf.1.2.1) hn (hv 0 t v rfl rfl) h1
    obtain ⟨y, k3, k4⟩ := args_tvs hC hf.2 (fun j t v e1 e2 => hv (j + 1) t v (by simpa using e1) (by simpa using e2)) h2
    exact ⟨(x, y), ⟨k1, k3⟩, k2, k4⟩
  | [], _ :: _, _, _, _, hf, _, _ => by simp [fitAll] at hf
  | _ :: _, [], _, _, _, hf, _, _ => by simp [fitAll] at hf
  | [], [], _ :: _, _, _, _, _, h => h.elim
  | [], [], [], _ :: _, _, _, _, h => h.elim
  | _ :: _, _ :: _, [], _, _, _, _, h => h.elim
  | _ :: _, _ :: _, _ :: _, [], _, _, _, h => h.elim

theorem keptBut_same {W W' : World} (ho : W'.os = W.os) (hp : W'.output = W.output) (hb : ∀ b, b < W.heap.size → W'.heap[b]? = W.heap[b]?) (may : MemPlace → Prop) : W.keptBut W' may := by
  refine ⟨ho, hp, fun i hi => ?_⟩
  rw [hb i hi]
  cases W.heap[i]? with
  | none => rfl
  | some o => cases o <;> first | rfl | exact ⟨rfl, rfl, rfl, fun _ _ => rfl⟩ | exact .inr ⟨rfl, rfl⟩

theorem trodAll_same (hl : laidOutB P = true) (hm : mapsRowed P = true) (hsz : ∀ t e, t < P.types.size → P.underlying t = some (.slice e) → 0 < P.cellsOf e) {W W' : World} (hb : ∀ b, b < W.heap.size → W'.heap[b]? = W.heap[b]?) :
    ∀ {ts : List TypeId} {vs : List Value} {ds : List (DataW H)} {p : List MemPlace}, (∀ t ∈ ts, t < P.types.size) → DataW.TrodAll enc P W 0 (fun _ => true) true ts vs ds p → DataW.TrodAll enc P W' 0 (fun b => decide (b < W.heap.size)) true ts vs ds p
  | [], [], [], p, _, h => h
  | t :: ts, v :: vs, d :: ds, p, ht, ⟨p1, p2, ⟨n, h1⟩, h2, e⟩ => by
    have hlt := DataW.trod_lt n _ _ _ h1
    refine ⟨p1, p2, ⟨n, DataW.trod_stays (kids_rows hl hm) (fun a b => hsz _ _ a b) (fun h => by cases h) (ht t (by simp)) h1 (fun q hq => ?_) (fun q hq => by simpa using hlt q hq)⟩, trodAll_same hl hm hsz hb (fun t h => ht t (by simp [h])) h2, e⟩
    have := hlt q hq
    cases q with
    | cell b off => exact World.cell?_of_block (a := ⟨b, off, none⟩) (hb b this)
    | map b => exact hb b this
  | [], [], _ :: _, _, _, h => h.elim
  | [], _ :: _, _, _, _, h => h.elim
  | _ :: _, [], _, _, _, h => h.elim
  | _ :: _, _ :: _, [], _, _, h => h.elim

/-- A law that, as a plain function, answers true for every input, does what its statement says. -/
theorem law_contract (hC : CfgOK C P) (hl : laidOutB P = true) (hm : mapsRowed P = true) (hsz : ∀ t e, t < P.types.size → P.underlying t = some (.slice e) → 0 < P.cellsOf e)
    {f : FuncId} {fn : Func} {Ts : List Ty} {F : tysDen Ts → Option (tysDen [.bool])} (hp : PureOK P C f { args := Ts, res := [.bool], fn := F }) (hlaw : ∀ x, tysOk Ts x → F x = some (true, ()))
    (hfit : fitAll C fn.params.toList Ts = true) (hpt : ∀ t ∈ fn.params.toList, t < P.types.size) {tb : TypeId} (hrt : fn.resultTypes = #[tb]) (htb : P.underlying tb = some .bool)
    {s : ChangeSpec} (hvars : s.vars = []) {apart fresh handsOn : Bool} {W : World} {base : Nat} {args : Array Value} {ds gs : List (DataW H)} {before : List MemPlace}
    (hs : s.fn H (ds ++ []) = { results := [.lit (.bool true)], args := ds, vars := [] })
    (hval : ∀ (j : Nat) t v, fn.params[j]? = some t → args[j]? = some v → Value.okWide P W .any base t v) (hW : DataW.Whole enc P fn.params.toList s.vars apart W args.toList ds gs before) (hG : GlobOK C (allFz W)) :
    Calls P f args W fun e W' => ∃ v, e = .returned v ∧ s.post enc P fn apart fresh handsOn false W args v W' := by
  have hW0 := hW
  obtain ⟨p, q, hA, hV, rfl, _, _⟩ := hW0
  rw [hvars] at hV
  obtain ⟨rfl, rfl⟩ : gs = [] ∧ q = [] := by
    cases gs with
    | nil => exact ⟨rfl, hV⟩
    | cons g r => exact hV.elim
  obtain ⟨x, h1, h2⟩ := args_tvs hC hfit (fun j t v e1 e2 => hval j t v (by simpa using e1) (by simpa using e2)) hA
  have hx := hlaw x h2
  refine (hp (allFz W) W args x (true, ()) hG (fun b o v e => e) h1 hx).mono ?_
  rintro e W' ⟨cs, fz', rfl, h3, _, ht⟩
  have hb : ∀ b, b < W.heap.size → W'.heap[b]? = W.heap[b]? := fun b hb => ht.block b hb (not_owned _ _)
  have hv : resVal cs = .bool true := by
    match cs, h3 with
    | [c], ⟨⟨arr, k1, k2⟩, _⟩ =>
      have k1' : arr.toList = [Value.bool true] := k1
      show c = _
      rw [k2]
      show arr.getD 0 undef = _
      rw [Array.getD_eq_getD_getElem?, ← Array.getElem?_toList, k1']
      rfl
    | _ :: _ :: _, ⟨_, h⟩ => cases h
    | [], h => exact h.elim
  rw [hv]
  refine ⟨_, rfl, ds, [], p ++ [], [], p, [], hW, ?_, ?_, ?_, keptBut_same ht.os ht.output hb _, fun h => by cases h⟩
  · rw [hs, hrt]
    exact ChangeShapes.trodAll_mk1 (RowKit.shut_bool htb true)
  · rw [hs]
    exact trodAll_same hl hm hsz hb hpt hA
  · rw [hs, hvars]
    rfl

end
end Go.V
